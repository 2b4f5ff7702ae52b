/- The law FnMatrices: its walk. -/
import Derived.Test.YtmbcncmmgfnlmaaMlf
import Derived.Test.YtmbcncmmgfnlmaaMdx
import Derived.Test.YtmbcncmmgfnlmaaMhl
import Derived.Test.YtmbcncmmgfnlmaaMux
namespace Go.Proofs.Ytmbcncmmgfnlmaa
open Go.RowKit
attribute [local go_sem ↓] Go.wp_at_zero Go.wp_at_succ
open Fus (F Mx toI ofI toI_bd toI_of toI_ofI ofI_toI ofI_add ofI_mul mm tr ap sm mm_assoc mm_tr kerR redR rank_nullity kerR_ker toI_zero)
set_option maxRecDepth 100000 in
set_option maxHeartbeats 8000000 in
theorem w_FnMatrices (u : Value) (bs : List Int) (w : World) (hu : Bytes w u bs) :
    Calls Try.prog 3 #[u] w fun e w' => e = .returned (.bool true) ∧ Below w.heap.size w w' := by
  have HU := Lib.hid hu
  obtain ⟨ap, cp, rfl, _, _⟩ := hu
  by_cases hl : bs.length ≤ 4096
  case neg =>
    have HDB : Hid (decide (4096 < (bs.length : Int)) = true) := Lib.hid (decide_eq_true (by omega))
    go_enter Try.func3, Try.ntmps3
    go_wp2_with fail
    refine (c_big _ bs _ HU.out).mono ?_
    rintro e w1 ⟨rfl, rfl⟩
    rw [HDB.out]
    go_wp2_with fail
    go_ret
    exact ⟨rfl, Below.refl _ _⟩
  have HDB : Hid (decide (4096 < (bs.length : Int)) = false) := Lib.hid (decide_eq_false (by omega))
  have HB : Hid (Below w.heap.size w w) := Lib.hid (Below.refl _ _)
  go_enter Try.func3, Try.ntmps3
  go_wp2_with fail
  refine (c_big _ bs _ HU.out).mono ?_
  rintro e w0 ⟨rfl, rfl⟩
  rw [HDB.out]
  go_wp2_with fail
  refine (c_DrawMultiplyMatrices _ bs _ HU.out hl).mono ?_
  rintro e w1 ⟨ua, ub, a, b, rfl, ha, hb', hb⟩
  have A := Lib.hid ha
  have Bm := Lib.hid hb'
  have HU := Lib.hid (HU.out.keep hb)
  have HB := Lib.hid (HB.out.trans (hb.mono HB.out.size))
  obtain ⟨⟨c, c1⟩, hm⟩ : ∃ r, mulM a b = r := ⟨_, rfl⟩
  have HM := Lib.hid hm
  have HSM : Hid (Small 4096 c) := Lib.hid (by have := mulM_small a b; rw [hm] at this; exact this)
  clear ha hb' hb hm
  go_wp2_with fail
  refine (c_MultiplyMatrices _ a _ b _ A.out Bm.out).mono ?_
  rw [HM.out]
  rintro e w2 ⟨uC, rfl, ho, hb⟩
  have C := Lib.hid (readM HSM.out ho)
  have A := Lib.hid (A.out.keep hb)
  have Bm := Lib.hid (Bm.out.keep hb)
  have HU := Lib.hid (HU.out.keep hb)
  have HB := Lib.hid (HB.out.trans (hb.mono HB.out.size))
  clear ho hb
  go_wp2_with fail
  refine (c_SMultiplyMatrices _ a _ b _ A.out Bm.out).mono ?_
  rw [HM.out]
  rintro e w3 ⟨uC2, rfl, ho, hb⟩
  have C2 := Lib.hid (readM HSM.out ho)
  have A := Lib.hid (A.out.keep hb)
  have Bm := Lib.hid (Bm.out.keep hb)
  have HU := Lib.hid (HU.out.keep hb)
  have C := Lib.hid (C.out.keep hb)
  have HB := Lib.hid (HB.out.trans (hb.mono HB.out.size))
  clear ho hb
  go_wp2_with fail
  refine (q_likeRows5 _ _ c _ C.out C2.out).mono ?_
  rintro e w4 ⟨rfl, hd⟩
  have hb := hd.below w3.heap.size
  have A := Lib.hid (A.out.keep hb)
  have Bm := Lib.hid (Bm.out.keep hb)
  have HU := Lib.hid (HU.out.keep hb)
  have C := Lib.hid (C.out.keep hb)
  have C2 := Lib.hid (C2.out.keep hb)
  have HB := Lib.hid (HB.out.trans (hb.mono HB.out.size))
  clear hb hd
  go_wp2_with fail
  clear C2
  refine (c_IsMatrix _ a _ A.out).mono ?_
  rintro e w5 ⟨rfl, hb⟩
  have A := Lib.hid (A.out.keep hb)
  have Bm := Lib.hid (Bm.out.keep hb)
  have HU := Lib.hid (HU.out.keep hb)
  have C := Lib.hid (C.out.keep hb)
  have HB := Lib.hid (HB.out.trans (hb.mono HB.out.size))
  clear hb
  go_wp2_with fail
  refine (c_SIsMatrix _ a _ A.out).mono ?_
  rintro e w6 ⟨rfl, hb⟩
  have A := Lib.hid (A.out.keep hb)
  have Bm := Lib.hid (Bm.out.keep hb)
  have HU := Lib.hid (HU.out.keep hb)
  have C := Lib.hid (C.out.keep hb)
  have HB := Lib.hid (HB.out.trans (hb.mono HB.out.size))
  clear hb
  go_upto_if 73 with fail
  go_cut [] (fun wx => Below w6.heap.size w6 wx)
  case first =>
    clear HB
    by_cases h1 : c1 = 0
    case neg =>
      have h1B : (c1 == 0) = false := by simp [h1]
      go_wp2_with fail
      go_meet
      case rel => exact Below.refl _ _
    subst h1
    obtain ⟨ra, na, cb, fa, fb, rfl, rfl, hra, hna, hcb, rfl⟩ := mulM_ok HM.out
    obtain ⟨bB, oB, capB, a2, cap2, rfl, k0⟩ := mat_firstF Bm.out hna.1
    have hltB := Ints.lt k0
    have hcb2 := hcb.2
    have hna1 := hna.1
    go_wp2_with fail
    refine (c_roll _ bs _ 902 HU.out hl).mono ?_
    rintro e w7 ⟨vd, rfl, hs7, hb7⟩
    have HS7 := Lib.hid hs7
    have HB7 := Lib.hid hb7
    have k1 := bcell hb7 k0
    have hz7 := hb7.size
    have hneB : bB ≠ w6.heap.size := by omega
    clear hs7 hb7 k0
    go_upto_region 10 with fail
    go_cut [10] (fun s10 wx => ∃ (k : Nat) (fe : Mx), Sz k ∧ IntRows wx s10 (tabF cb k fe) ∧ Below w6.heap.size w6 wx)
    case first =>
      have hsD := HS7.out.drewN 1
      have hltD : bB < w7.heap.size := by omega
      go_region_with
        (first
          | (go_at_call 15; refine (k_dice vd 3 _ _ _ (by assumption) (by omega) (by omega)).mono ?_; rintro e w8 ⟨z, rfl, hz1, hz2, hs8, hk8⟩; obtain ⟨z, rfl⟩ := Int.eq_ofNat_of_zero_le hz1; have q1 := hk8.cell k1 hneB; have hw : IntKind.i64.wrap (1 + (z : Int)) = ((1 + z : Nat) : Int) := (by rw [IntWalk.i64_in _ (by omega)]; rfl))
          | (go_at_call 14; refine (k_matrix5 vd cb (1 + z) _ _ _ (by assumption) (by omega) (by omega)).mono ?_; rintro e w9 ⟨uE, fe, rfl, hoE, hs9, hk9⟩))
      all_goals
        have hb9 := Kept.belowN (Kept.belowN (HB7.out.trans (below_toDrewN 1 _ w7)) hk8) hk9
        have hkS : Sz (1 + z) := ⟨by omega, by omega⟩
        have HE := Lib.hid (readF hcb hkS hoE)
        have HB9 := Lib.hid hb9
        clear hb9 hoE hs9 hk9 hs8 hk8 q1
        go_wp2_with fail
        go_meet
        case rel => exact ⟨1 + z, fe, hkS, HE.out, HB9.out⟩
    case rest =>
      obtain ⟨k, fe, hk, hE, hb⟩ := hcut
      have E := Lib.hid hE
      have A := Lib.hid (A.out.keep hb)
      have Bm := Lib.hid (Bm.out.keep hb)
      have C := Lib.hid (C.out.keep hb)
      have HB := Lib.hid hb
      clear hE hb HS7 HB7 k1
      go_wp2_with fail
      refine (c_MultiplyMatrices _ _ _ _ _ C.out E.out).mono ?_
      rw [mulM_F _ _ hra hcb hk]
      rintro e w10 ⟨uM1, rfl, ho, hb⟩
      have M1 := Lib.hid (readF hra hk ho)
      have A := Lib.hid (A.out.keep hb)
      have Bm := Lib.hid (Bm.out.keep hb)
      have C := Lib.hid (C.out.keep hb)
      have E := Lib.hid (E.out.keep hb)
      have HB := Lib.hid (HB.out.trans (hb.mono HB.out.size))
      clear ho hb
      go_wp2_with fail
      refine (c_MultiplyMatrices _ _ _ _ _ Bm.out E.out).mono ?_
      rw [mulM_F _ _ hna hcb hk]
      rintro e w11 ⟨uM2, rfl, ho, hb⟩
      have M2 := Lib.hid (readF hna hk ho)
      have A := Lib.hid (A.out.keep hb)
      have Bm := Lib.hid (Bm.out.keep hb)
      have C := Lib.hid (C.out.keep hb)
      have E := Lib.hid (E.out.keep hb)
      have M1 := Lib.hid (M1.out.keep hb)
      have HB := Lib.hid (HB.out.trans (hb.mono HB.out.size))
      clear ho hb
      go_wp2_with fail
      clear E
      refine (c_MultiplyMatrices _ _ _ _ _ A.out M2.out).mono ?_
      rw [mulM_F _ _ hra hna hk]
      rintro e w12 ⟨uM3, rfl, ho, hb⟩
      have M3 := Lib.hid (readF hra hk ho)
      have A := Lib.hid (A.out.keep hb)
      have Bm := Lib.hid (Bm.out.keep hb)
      have C := Lib.hid (C.out.keep hb)
      have M1 := Lib.hid (M1.out.keep hb)
      have M2 := Lib.hid (M2.out.keep hb)
      have HB := Lib.hid (HB.out.trans (hb.mono HB.out.size))
      clear ho hb
      go_wp2_with fail
      clear M2
      refine (c_TransposeMatrix _ _ _ A.out).mono ?_
      rw [turnN_F _ hra hna]
      rintro e w13 ⟨uTX, rfl, ho, hb⟩
      have TX := Lib.hid (readF hna hra ho)
      have A := Lib.hid (A.out.keep hb)
      have Bm := Lib.hid (Bm.out.keep hb)
      have C := Lib.hid (C.out.keep hb)
      have M1 := Lib.hid (M1.out.keep hb)
      have M3 := Lib.hid (M3.out.keep hb)
      have HB := Lib.hid (HB.out.trans (hb.mono HB.out.size))
      clear ho hb
      go_wp2_with fail
      clear A
      refine (c_TransposeMatrix _ _ _ Bm.out).mono ?_
      rw [turnN_F _ hna hcb]
      rintro e w14 ⟨uTY, rfl, ho, hb⟩
      have TY := Lib.hid (readF hcb hna ho)
      have Bm := Lib.hid (Bm.out.keep hb)
      have C := Lib.hid (C.out.keep hb)
      have M1 := Lib.hid (M1.out.keep hb)
      have M3 := Lib.hid (M3.out.keep hb)
      have TX := Lib.hid (TX.out.keep hb)
      have HB := Lib.hid (HB.out.trans (hb.mono HB.out.size))
      clear ho hb
      go_wp2_with fail
      clear Bm
      refine (c_TransposeMatrix _ _ _ C.out).mono ?_
      rw [turnN_F _ hra hcb]
      rintro e w15 ⟨uTZ, rfl, ho, hb⟩
      have TZ := Lib.hid (readF hcb hra ho)
      have C := Lib.hid (C.out.keep hb)
      have M1 := Lib.hid (M1.out.keep hb)
      have M3 := Lib.hid (M3.out.keep hb)
      have TX := Lib.hid (TX.out.keep hb)
      have TY := Lib.hid (TY.out.keep hb)
      have HB := Lib.hid (HB.out.trans (hb.mono HB.out.size))
      clear ho hb
      go_wp2_with fail
      clear C
      refine (c_MultiplyMatrices _ _ _ _ _ TY.out TX.out).mono ?_
      rw [mulM_F _ _ hcb hna hra]
      rintro e w16 ⟨uM4, rfl, ho, hb⟩
      have M4 := Lib.hid (readF hcb hra ho)
      have M1 := Lib.hid (M1.out.keep hb)
      have M3 := Lib.hid (M3.out.keep hb)
      have TX := Lib.hid (TX.out.keep hb)
      have TY := Lib.hid (TY.out.keep hb)
      have TZ := Lib.hid (TZ.out.keep hb)
      have HB := Lib.hid (HB.out.trans (hb.mono HB.out.size))
      clear ho hb
      go_wp2_with fail
      have e1 : tabF ra k (mm na fa (mm cb fb fe)) = tabF ra k (mm cb (mm na fa fb) fe) := tabF_congr fun i j _ _ => (mm_assoc na cb fa fb fe i j).symm
      have e2 : tabF cb ra (mm na (tr fb) (tr fa)) = tabF cb ra (tr (mm na fa fb)) := tabF_congr fun i j _ _ => mm_tr na fa fb i j
      rw [e1] at M3
      rw [e2] at M4
      clear e1 e2
      refine (q_likeRows5 _ _ _ _ M1.out M3.out).mono ?_
      rintro e w17 ⟨rfl, hd⟩
      have hb := hd.below w16.heap.size
      have M1 := Lib.hid (M1.out.keep hb)
      have M3 := Lib.hid (M3.out.keep hb)
      have TX := Lib.hid (TX.out.keep hb)
      have TY := Lib.hid (TY.out.keep hb)
      have TZ := Lib.hid (TZ.out.keep hb)
      have M4 := Lib.hid (M4.out.keep hb)
      have HB := Lib.hid (HB.out.trans (hb.mono HB.out.size))
      clear hb hd
      go_wp2_with fail
      refine (q_likeRows5 _ _ _ _ M4.out TZ.out).mono ?_
      rintro e w18 ⟨rfl, hd⟩
      have hb := hd.below w17.heap.size
      have M1 := Lib.hid (M1.out.keep hb)
      have M3 := Lib.hid (M3.out.keep hb)
      have TX := Lib.hid (TX.out.keep hb)
      have TY := Lib.hid (TY.out.keep hb)
      have TZ := Lib.hid (TZ.out.keep hb)
      have M4 := Lib.hid (M4.out.keep hb)
      have HB := Lib.hid (HB.out.trans (hb.mono HB.out.size))
      clear hb hd
      go_wp2_with fail
      go_meet
      case rel => exact HB.out
  case rest =>
    have HU := Lib.hid (HU.out.keep hcut)
    have HB := Lib.hid (HB.out.trans (hcut.mono HB.out.size))
    clear hcut A Bm C HM HSM
    go_wp2_with fail
    refine (c_DrawKernelBasis _ bs _ HU.out hl).mono ?_
    rintro e w1 ⟨um, m, rfl, hm, hb⟩
    have M := Lib.hid hm
    have HB := Lib.hid (HB.out.trans (hb.mono HB.out.size))
    obtain ⟨⟨l, c2⟩, hk⟩ : ∃ r, kerN m = r := ⟨_, rfl⟩
    have HK := Lib.hid hk
    have HSK : Hid (Small 4096 l) := Lib.hid (by have := kerN_small m; rw [hk] at this; exact this)
    clear hm hb hk HU
    go_wp2_with fail
    refine (c_KernelBasis _ m _ M.out).mono ?_
    rw [HK.out]
    rintro e w10 ⟨uK, rfl, ho, hb⟩
    have K := Lib.hid (readM HSK.out ho)
    have M := Lib.hid (M.out.keep hb)
    have HB := Lib.hid (HB.out.trans (hb.mono HB.out.size))
    clear ho hb
    go_wp2_with fail
    refine (c_SKernelBasis _ m _ M.out).mono ?_
    rw [HK.out]
    rintro e w11 ⟨uK2, rfl, ho, hb⟩
    have K2 := Lib.hid (readM HSK.out ho)
    have M := Lib.hid (M.out.keep hb)
    have K := Lib.hid (K.out.keep hb)
    have HB := Lib.hid (HB.out.trans (hb.mono HB.out.size))
    clear ho hb
    go_wp2_with fail
    refine (q_likeRows5 _ _ l _ K.out K2.out).mono ?_
    rintro e w12 ⟨rfl, hd⟩
    have hb := hd.below w11.heap.size
    have M := Lib.hid (M.out.keep hb)
    have K := Lib.hid (K.out.keep hb)
    have K2 := Lib.hid (K2.out.keep hb)
    have HB := Lib.hid (HB.out.trans (hb.mono HB.out.size))
    clear hb hd
    clear K2
    by_cases h2 : c2 = 0
    case neg =>
      have h2B : (c2 != 0) = true := by simp [h2]
      go_wp2_with fail
      go_ret
      exact ⟨rfl, HB.out⟩
    subst h2
    obtain ⟨r, n, f, rfl, hr, hn, rfl, hrk, hsp⟩ := kerN_ok HK.out
    obtain ⟨hd1, hd2, hd3⟩ := ker_len r n f
    have HZ := Lib.hid (fun i => ker_zero (r := r) (c := n) f (i := i))
    have HRK := Lib.hid hrk
    have HSP := Lib.hid hsp
    have hn2 := hn.2
    obtain ⟨d1, hh1⟩ : ∃ d, d = (redR r f n).d := ⟨_, rfl⟩
    obtain ⟨d2, hh2⟩ : ∃ d, d = (kerR r n f).d := ⟨_, rfl⟩
    obtain ⟨g1, hg1⟩ : ∃ g, g = (redR r f n).f := ⟨_, rfl⟩
    obtain ⟨g2, hg2⟩ : ∃ g, g = (kerR r n f).f := ⟨_, rfl⟩
    rw [← hh1, ← hg1] at HSP
    rw [← hh1] at HRK hd2 hd3
    rw [← hh2] at hd1 hd3
    rw [← hh2, ← hg2] at HZ K
    clear hrk hsp hh1 hh2 hg1 hg2 HK HSK
    obtain ⟨ak, ck, rfl⟩ := rowsShape K.out
    rw [tabF_length] at K ⊢
    obtain ⟨bM, oM, capM, a2, cap2, rfl, _⟩ := mat_firstF M.out hr.1
    have hsum : (((d1 : Int) + (d2 : Int)) != (n : Int)) = false := by
      have : (d1 : Int) + (d2 : Int) = (n : Int) := by omega
      simp [this]
    have hd3n : d1 + d2 ≤ 16 := by omega
    have hr1 := hr.1
    clear hd3 hd1 hd2
    go_wp2_with fail
    refine (c_RankOf _ _ _ M.out).mono ?_
    rw [HRK.out]
    unfold two
    rintro e w13 ⟨rfl, hb⟩
    have M := Lib.hid (M.out.keep hb)
    have K := Lib.hid (K.out.keep hb)
    have HB := Lib.hid (HB.out.trans (hb.mono HB.out.size))
    clear hb
    go_wp2_with fail
    refine (c_SpanBasis _ _ _ M.out).mono ?_
    rw [HSP.out]
    rintro e w14 ⟨us, rfl, ho, hb⟩
    obtain ⟨aS, cS, rfl⟩ := rowsShape (ho.rowsF (by omega) (by omega))
    rw [tabF_length]
    have M := Lib.hid (M.out.keep hb)
    have K := Lib.hid (K.out.keep hb)
    have HB := Lib.hid (HB.out.trans (hb.mono HB.out.size))
    clear hb ho
    obtain ⟨bM', oM', capM', a2, cap2, e, kM⟩ := mat_firstF M.out hr.1
    cases e
    go_wp2_with fail
    obtain ⟨wl, rfl⟩ : ∃ wl : World, wl = w14 := ⟨_, rfl⟩
    go_loopw [34] (fun iv wr => ∃ i : Nat, i ≤ d2 ∧ iv = .int .i64 i ∧ Hid (Below wl.heap.size wl wr)) (fun iv _ => d2 - (intOf iv).toNat)
    case atStart => exact ⟨0, Nat.zero_le _, rfl, Lib.hid (Below.refl _ _)⟩
    case round =>
      obtain ⟨i, hi, rfl, HBL⟩ := hrel
      by_cases hlt : i < d2
      · have KW := Lib.hid (K.out.keep HBL.out)
        have MW := Lib.hid (M.out.keep HBL.out)
        obtain ⟨b, off, uv, rfl, hcell, hI⟩ := rowAt KW.out (tabF_at n g2 hlt)
        have HI := Lib.hid hI
        have HZi := Lib.hid (HZ.out i hlt)
        clear hI
        go_wp2_with fail
        refine (c_ApplyMatrix _ _ _ _ _ MW.out HI.out).mono ?_
        rw [appN_F f _ hr hn, HZi.out]
        rintro e wx ⟨ux, rfl, ho, hb⟩
        have HX := Lib.hid (readI (by rw [zl_length]; have := hr.2; omega) ho)
        obtain ⟨ax, cx, rfl⟩ := intsShape HX.out
        rw [zl_length] at HX ⊢
        have HBX := Lib.hid (HBL.out.trans (hb.mono HBL.out.size))
        clear ho hb hcell
        go_wp2_with fail
        refine (c_zero5 _ r _ HX.out).mono ?_
        rintro e wy ⟨rfl, rfl⟩
        go_wp2_with fail
        go_roundw
        case rel => exact ⟨i + 1, by omega, by go_num, HBX⟩
        case measure => simp [intOf]; omega
      · obtain rfl : d2 = i := by omega
        go_wp2_with fail
        go_ret
        exact ⟨rfl, HB.out.trans (HBL.out.mono HB.out.size)⟩
end Go.Proofs.Ytmbcncmmgfnlmaa
