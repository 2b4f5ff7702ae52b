/- The law FnEigenspaces: its walk. -/
import Derived.Test.YtmbcncmmgfnlmaaMep
import Derived.Deep.RegionHeld3
import Derived.Deep.DeepCutAuto
import Derived.Test.YtmbcncmmgfnlmaaMsm
import Derived.Test.YtmbcncmmgfnlmaaMhl
import Derived.Test.YtmbcncmmgfnlmaaGmu
namespace Go.Proofs.Ytmbcncmmgfnlmaa
open Go.RowKit
attribute [local go_sem ↓] Go.wp_at_zero Go.wp_at_succ
open Fus (F Mx toI ofI toI_bd toI_of toI_ofI ofI_toI ap)
attribute [local irreducible] Fus.rts Fus.fnat
theorem int_cell {w : World} {a : Option Addr} {n cap i : Nat} {xs : List Int} {x : Int} (h : Ints w (.slice a n cap) xs) (hx : xs[i]? = some x) :
    ∃ b off, a = some ⟨b, off, none⟩ ∧ w.cell? ⟨b, off + i, none⟩ = some (.int .i64 x) := by
  obtain ⟨a', cap', e, _, hc⟩ := h
  cases e
  exact hc i x hx
theorem cube_cell {w : World} {a : Option Addr} {n cap i : Nat} {c : List (List (List Int))} {m : List (List Int)} (h : IntCubes w (.slice a n cap) c) (hm : c[i]? = some m) :
    ∃ b off u, a = some ⟨b, off, none⟩ ∧ w.cell? ⟨b, off + i, none⟩ = some u ∧ IntRows w u m := by
  obtain ⟨a', cap', e, _, hc⟩ := h
  cases e
  exact hc i m hm
theorem cubesShape {w : World} {v : Value} {c : List (List (List Int))} (h : IntCubes w v c) : ∃ a cap, v = .slice a c.length cap := by
  obtain ⟨a, cap, e, _⟩ := h; exact ⟨a, cap, e⟩
theorem zl_zero0 (n : Nat) : (zl n fun _ => (0 : F)) = vec n fun _ => (0 : Int) := by unfold zl; simp only [Fus.toI_zero]
theorem zeros_ints (w : World) (n : Nat) (h : n ≤ 1000) : Ints (w.alloc (.cells (madeCells #[.int .i64 0] n) 2)) (.slice (some ⟨w.heap.size, 0, none⟩) n n) (zl n fun _ => 0) := by
  have h1 := own_zeros w n (by omega)
  rw [← zl_zero0] at h1
  exact OwnI.ints h1 (by rw [zl_length]; omega)
theorem Below.ofDrew {w w' : World} (h : Below w.drew.heap.size w.drew w') : Below w.heap.size w w' := ⟨h.os, h.tape, h.output, h.size, h.block⟩
theorem bne_same (b : Bool) : (b != b) = false := by cases b <;> rfl
set_option maxRecDepth 100000 in
set_option maxHeartbeats 8000000 in
theorem w_FnEigenspaces (u : Value) (bs : List Int) (w : World) (hu : Bytes w u bs) :
    Calls Try.prog 5 #[u] w fun e w' => e = .returned (.bool true) ∧ Below w.heap.size w w' := by
  have HU := Lib.hid hu
  obtain ⟨ap, cp, rfl, _, _⟩ := hu
  by_cases hl : bs.length ≤ 4096
  case neg =>
    have HDB : Hid (decide (4096 < (bs.length : Int)) = true) := Lib.hid (decide_eq_true (by omega))
    go_enter Try.func5, Try.ntmps5
    go_wp2_with fail
    refine (c_big _ bs _ HU.out).mono ?_
    rintro e w1 ⟨rfl, rfl⟩
    rw [HDB.out]
    go_wp2_with fail
    go_ret
    exact ⟨rfl, Below.refl _ _⟩
  have HDB : Hid (decide (4096 < (bs.length : Int)) = false) := Lib.hid (decide_eq_false (by omega))
  have HB : Hid (Below w.heap.size w w) := Lib.hid (Below.refl _ _)
  go_enter Try.func5, Try.ntmps5
  go_wp2_with fail
  refine (c_big _ bs _ HU.out).mono ?_
  rintro e w0 ⟨rfl, rfl⟩
  rw [HDB.out]
  go_wp2_with fail
  refine (c_DrawEigenspaceOf _ bs _ HU.out hl).mono ?_
  rintro e w1 ⟨um, m, x, rfl, hm, hb⟩
  have M := Lib.hid hm
  have HU := Lib.hid (HU.out.keep hb)
  have HB := Lib.hid (HB.out.trans (hb.mono HB.out.size))
  obtain ⟨⟨sp, c1⟩, h1⟩ : ∃ r, eigN m x = r := ⟨_, rfl⟩
  obtain ⟨⟨vals, c2⟩, h2⟩ : ∃ r, valsN m = r := ⟨_, rfl⟩
  obtain ⟨⟨dg, c3⟩, h3⟩ : ∃ r, diaN m = r := ⟨_, rfl⟩
  have H1 := Lib.hid h1
  have H2 := Lib.hid h2
  have H3 := Lib.hid h3
  have HS1 : Hid (Small 4096 sp) := Lib.hid (by have := eigN_small m x; rw [h1] at this; exact this)
  have HS2 : Hid (vals.length ≤ 100000) := Lib.hid (by have := valsN_small m; rw [h2] at this; exact this)
  clear hm hb h1 h2 h3
  go_wp2_with fail
  refine (c_EigenspaceOf _ m x _ M.out).mono ?_
  rw [H1.out]
  rintro e w2 ⟨uSp, rfl, ho, hb⟩
  have Sp := Lib.hid (readM HS1.out ho)
  have M := Lib.hid (M.out.keep hb)
  have HU := Lib.hid (HU.out.keep hb)
  have HB := Lib.hid (HB.out.trans (hb.mono HB.out.size))
  clear ho hb
  go_wp2_with fail
  refine (c_SEigenspaceOf _ m x _ M.out).mono ?_
  rw [H1.out]
  rintro e w3 ⟨uSq, rfl, ho, hb⟩
  have Sq := Lib.hid (readM HS1.out ho)
  have M := Lib.hid (M.out.keep hb)
  have HU := Lib.hid (HU.out.keep hb)
  have Sp := Lib.hid (Sp.out.keep hb)
  have HB := Lib.hid (HB.out.trans (hb.mono HB.out.size))
  clear ho hb
  go_wp2_with fail
  refine (q_likeRows5 _ _ sp _ Sp.out Sq.out).mono ?_
  rintro e w4 ⟨rfl, hd⟩
  have hb := hd.below w3.heap.size
  have M := Lib.hid (M.out.keep hb)
  have HU := Lib.hid (HU.out.keep hb)
  have Sp := Lib.hid (Sp.out.keep hb)
  have Sq := Lib.hid (Sq.out.keep hb)
  have HB := Lib.hid (HB.out.trans (hb.mono HB.out.size))
  clear hb hd
  clear Sq
  obtain ⟨aM, cM, rfl⟩ := rowsShape M.out
  obtain ⟨aS, cS, rfl⟩ := rowsShape Sp.out
  obtain ⟨nM, hnM⟩ : ∃ nM, nM = m.length := ⟨_, rfl⟩
  obtain ⟨nS, hnS⟩ : ∃ nS, nS = sp.length := ⟨_, rfl⟩
  rw [← hnM] at M ⊢
  rw [← hnS] at Sp ⊢
  have HNM := Lib.hid hnM
  have HNS := Lib.hid hnS
  clear hnM hnS
  go_upto_region 8 with fail
  obtain ⟨wA, rfl⟩ : ∃ wA : World, wA = w4 := ⟨_, rfl⟩
  obtain ⟨bb, hbb⟩ : ∃ bb, ((c1 == 0) || (c1 == 4)) = bb := ⟨_, rfl⟩
  have HBB := Lib.hid hbb
  clear hbb
  go_cut [65] (fun s wx => s = .bool bb ∧ wx = wA)
  case first =>
    by_cases e0 : c1 = 0
    · subst e0
      go_wp2_with fail
      go_meet
      case rel => exact ⟨congrArg Value.bool HBB.out, rfl⟩
    · have b0 : (c1 == 0) = false := by rw [beq_eq_false_iff_ne]; exact e0
      by_cases e4 : c1 = 4
      · subst e4
        go_wp2_with fail
        go_meet
        case rel => exact ⟨congrArg Value.bool HBB.out, rfl⟩
      · have b4 : (c1 == 4) = false := by rw [beq_eq_false_iff_ne]; exact e4
        go_wp2_with fail
        go_meet
        case rel => exact ⟨by rw [← HBB.out, b0, b4]; rfl, rfl⟩
  obtain ⟨rfl, rfl⟩ := hcut
  obtain ⟨wB, rfl⟩ : ∃ wB : World, wB = wc := ⟨_, rfl⟩
  go_upto_if 65 with fail
  go_cut [] (fun wx => Below wB.heap.size wB wx)
  case first =>
    clear HB HU
    rcases eig_forms H1.out H2.out H3.out with ⟨n0, n4⟩ | ⟨h14, rfl, rfl, n, f, t, s, g, hmf, hn, hxt, hmem, rfl, hs16, hker, hdg, hvl, heach⟩
    · obtain rfl : false = bb := by rw [← HBB.out]; exact (by rw [Bool.or_eq_false_iff, beq_eq_false_iff_ne, beq_eq_false_iff_ne]; exact ⟨n0, n4⟩ : ((c1 == 0) || (c1 == 4)) = false).symm
      go_wp2_with fail
      go_meet
      case rel => exact Below.refl _ _
    obtain rfl : true = bb := by rw [← HBB.out]; exact (by rw [Bool.or_eq_true, beq_iff_eq, beq_iff_eq]; exact h14 : ((c1 == 0) || (c1 == 4)) = true).symm
    have HB : Hid (Below wB.heap.size wB wB) := Lib.hid (Below.refl _ _)
    obtain rfl : n = nM := by rw [HNM.out, hmf, tabF_length]
    obtain rfl : s = nS := by rw [HNS.out, tabF_length]
    have HXT := Lib.hid hxt
    have HMEM := Lib.hid hmem
    have HDG := Lib.hid hdg
    have HEACH := Lib.hid heach
    have HAP : Hid (∀ i, i < s → appN m (zl n (g i)) = (zl n fun j => 0 + t * g i j, 0)) := Lib.hid (fun i hi => by rw [hmf, appN_F f _ hn hn, hker i hi])
    obtain ⟨hn1, hn2⟩ := id hn
    clear hmf hxt hmem hdg heach hker h14 HNM HNS
    go_wp2_with fail
    refine (c_EigenvaluesOf _ m _ M.out).mono ?_
    rw [H2.out]
    rintro e w5 ⟨uV, rfl, ho, hb⟩
    have V := Lib.hid (readI HS2.out ho)
    have M := Lib.hid (M.out.keep hb)
    have Sp := Lib.hid (Sp.out.keep hb)
    have HB := Lib.hid (HB.out.trans (hb.mono HB.out.size))
    clear ho hb
    go_wp2_with fail
    refine (c_SEigenvaluesOf _ m _ M.out).mono ?_
    rw [H2.out]
    rintro e w6 ⟨uV2, rfl, ho, hb⟩
    have V2 := Lib.hid (readI HS2.out ho)
    have M := Lib.hid (M.out.keep hb)
    have Sp := Lib.hid (Sp.out.keep hb)
    have V := Lib.hid (V.out.keep hb)
    have HB := Lib.hid (HB.out.trans (hb.mono HB.out.size))
    clear ho hb
    go_wp2_with fail
    refine (q_likeInts _ _ vals _ V.out V2.out).mono ?_
    rintro e w7 ⟨rfl, hd⟩
    have hb := hd.below w6.heap.size
    have M := Lib.hid (M.out.keep hb)
    have Sp := Lib.hid (Sp.out.keep hb)
    have V := Lib.hid (V.out.keep hb)
    have V2 := Lib.hid (V2.out.keep hb)
    have HB := Lib.hid (HB.out.trans (hb.mono HB.out.size))
    clear hb hd
    go_wp2_with fail
    clear V2
    refine (c_hasInt _ vals x _ V.out).mono ?_
    rintro e w8 ⟨rfl, rfl⟩
    rw [HMEM.out]
    have hbb := bne_same (c1 == 0)
    obtain ⟨aV, cV, rfl⟩ := intsShape V.out
    go_wp2_with fail
    obtain ⟨wl, rfl⟩ : ∃ wl : World, wl = w7 := ⟨_, rfl⟩
    have hmk := run_make_row' (P := Try.prog) 35 2 (.int .i64 0) 8 Try.underlying35 info_int rfl .i64 .i64 n (by omega) (by omega)
    go_loopw [13] (fun iv wr => ∃ i : Nat, i ≤ s ∧ iv = .int .i64 i ∧ Hid (Below wl.heap.size wl wr)) (fun iv _ => s - (intOf iv).toNat)
    case atStart => exact ⟨0, Nat.zero_le _, rfl, Lib.hid (Below.refl _ _)⟩
    case round =>
      obtain ⟨i, hi, rfl, HBL⟩ := hrel
      by_cases hlt : i < s
      · have SW := Lib.hid (Sp.out.keep HBL.out)
        have MW := Lib.hid (M.out.keep HBL.out)
        obtain ⟨b, off, uv, rfl, hcell, hI⟩ := rowAt SW.out (tabF_at n g hlt)
        obtain ⟨av, cv, rfl⟩ := intsShape hI
        rw [zl_length] at hI hcell
        have HI := Lib.hid hI
        have HAi := Lib.hid (HAP.out i hlt)
        clear hI SW
        go_wp2_with fail
        refine (c_ApplyMatrix _ m _ (zl n (g i)) _ MW.out HI.out).mono ?_
        rw [HAi.out]
        rintro e wx ⟨ux, rfl, ho, hb⟩
        have HX := Lib.hid (readI (by rw [zl_length]; omega) ho)
        obtain ⟨ax, cx, rfl⟩ := intsShape HX.out
        rw [zl_length] at HX ⊢
        have HBX := Lib.hid (HBL.out.trans (hb.mono HBL.out.size))
        have hltb := Ints.lt hcell
        have k1 := bcell hb hcell
        have hltx := Ints.lt k1
        have HIX := Lib.hid (HI.out.keep hb)
        clear ho hb hcell HI MW
        have HPL := Lib.hid (c_plus5 _ _ n (fun _ => 0) (g i) t (wx.drew.alloc (.cells (madeCells #[.int .i64 0] n) 2)) (zeros_ints wx.drew n (by omega)) ((HIX.out.keep (below_toDrewN 1 _ _)).keep (below_alloc _ _)) (by omega))
        rw [← HXT.out] at HPL
        go_wp2_with fail
        have HLA : Hid (b < (wx.drew.alloc (.cells (madeCells #[.int .i64 0] n) 2)).heap.size) := Lib.hid (Nat.lt_of_lt_of_le hltx (below_alloc wx.drew _).size)
        go_region_held3 (fun w' => w'.cell? ⟨b, off + i, none⟩ = some (.slice av n cv))
          (first | go_keep | (refine bkeep hbp HLA.out ?_ <;> go_keep) | (refine bkeep hb7 HL6.out ?_ <;> go_keep))
          ((first
            | (go_at_call 34; refine HPL.out.mono ?_; rintro e w6 ⟨up, rfl, hop, hbp⟩; have hp6 := Below.trans (below_alloc wx.drew (.cells (madeCells #[.int .i64 0] n) 2)) (hbp.mono (by simp)); have HP := Lib.hid (readI (by rw [zl_length]; omega) hop); have HXP := Lib.hid ((HX.out.keep (below_toDrewN 1 _ _)).keep hp6); have HL6 : Hid (b < w6.heap.size) := Lib.hid (Nat.lt_of_lt_of_le hltx hp6.size))
            | (go_at_call 29; refine (q_likeInts _ _ (zl n fun j => 0 + t * g i j) _ HXP.out HP.out).mono ?_; rintro e w7 ⟨rfl, hd7⟩; have hb7 := hd7.below w6.heap.size)))
        all_goals
          have hb8 := HBX.out.trans (((below_toDrewN 1 _ _).trans (hp6.trans (hb7.mono hp6.size))).mono HBX.out.size)
          clear hd7 hb7 hop hbp hp6
          go_wp2_with fail
          go_roundw
          case rel => exact ⟨i + 1, by omega, by go_num, Lib.hid hb8⟩
          case measure => simp [intOf]; omega
      · obtain rfl : s = i := by omega
        have M := Lib.hid (M.out.keep HBL.out)
        have V := Lib.hid (V.out.keep HBL.out)
        have HB := Lib.hid (HB.out.trans (HBL.out.mono HB.out.size))
        clear HBL Sp hbb hmk HAP
        go_wp2_with fail
        obtain ⟨wk, rfl⟩ : ∃ wk : World, wk = wr := ⟨_, rfl⟩
        go_loopw [16, 17] (fun cv iv wr => ∃ k : Nat, k ≤ vals.length ∧ iv = .int .i64 k ∧ cv = .int .i64 (dsum n f vals k : Nat) ∧ Hid (Below wk.heap.size wk wr)) (fun _ iv _ => vals.length - (intOf iv).toNat)
        case atStart => exact ⟨0, Nat.zero_le _, rfl, rfl, Lib.hid (Below.refl _ _)⟩
        case round =>
          obtain ⟨k, hk, rfl, rfl, HBL⟩ := hrel
          by_cases hlt : k < vals.length
          · obtain ⟨y, hy⟩ : ∃ y, vals[k]? = some y := ⟨vals[k], by simp [hlt]⟩
            obtain ⟨s', g', he, h0, hl', hd⟩ := HEACH.out k y hy
            have hdl := dsum_le n f vals k
            have hkn : k * n ≤ 55441 * 16 := Nat.mul_le_mul (by omega) hn2
            have VW := V.out.keep HBL.out
            have MW := Lib.hid (M.out.keep HBL.out)
            obtain ⟨bV, oV, rfl, hcell⟩ := int_cell VW hy
            have HE := Lib.hid he
            have HD : Hid (((dsum n f vals (k + 1) : Nat) : Int) = ((dsum n f vals k : Nat) : Int) + (s' : Int)) := Lib.hid (by rw [hd]; rfl)
            obtain ⟨d0, hd0⟩ : ∃ d0, d0 = dsum n f vals k := ⟨_, rfl⟩
            rw [← hd0] at HD hdl ⊢
            have hd0b : d0 ≤ 1000000 := by omega
            have h0B : ((s' : Int) == 0) = false := by rw [beq_eq_false_iff_ne]; omega
            clear he hd hy hdl hkn hd0 VW
            go_wp2_with fail
            refine (c_EigenspaceOf _ m y _ MW.out).mono ?_
            rw [HE.out]
            rintro e wx ⟨ux, rfl, ho, hb⟩
            obtain ⟨ax, cx, rfl⟩ := rowsShape (ho.rowsF (by omega) (by omega))
            rw [tabF_length]
            have HBX := Lib.hid (HBL.out.trans (hb.mono HBL.out.size))
            clear ho hb hcell
            go_wp2_with fail
            go_roundw
            case rel => exact ⟨k + 1, by omega, by go_num, by rw [HD.out], HBX⟩
            case measure => simp [intOf]; omega
          · obtain rfl : k = vals.length := by omega
            have M := Lib.hid (M.out.keep HBL.out)
            have HB := Lib.hid (HB.out.trans (HBL.out.mono HB.out.size))
            clear HBL V
            go_wp2_with fail
            refine (c_IsDiagonalizable _ m _ M.out).mono ?_
            rw [H3.out]
            unfold twoB
            rintro e wx ⟨rfl, hb⟩
            have HB := Lib.hid (HB.out.trans (hb.mono HB.out.size))
            clear hb
            have hbb := bne_same ((dsum n f vals vals.length : Int) == (n : Int))
            rw [HDG.out]
            go_wp2_with fail
            go_meet
            case rel => exact HB.out
  have HU := Lib.hid (HU.out.keep hcut)
  have HB := Lib.hid (HB.out.trans (hcut.mono HB.out.size))
  clear hcut M Sp H1 H2 H3 HS1 HS2 HNM HNS
  go_wp2_with fail
  refine (c_DrawCommonSpace _ bs _ HU.out hl).mono ?_
  rintro e w1 ⟨uc, ux, c, xs, rfl, hc, hx, hb⟩
  have C := Lib.hid hc
  have X := Lib.hid hx
  have HB := Lib.hid (HB.out.trans (hb.mono HB.out.size))
  obtain ⟨⟨l, c8⟩, h8⟩ : ∃ r, comN c xs = r := ⟨_, rfl⟩
  have H8 := Lib.hid h8
  have HS8 : Hid (Small 4096 l) := Lib.hid (by have := comN_small c xs; rw [h8] at this; exact this)
  clear hc hx hb h8 HU
  go_wp2_with fail
  refine (c_CommonSpace _ c _ xs _ C.out X.out).mono ?_
  rw [H8.out]
  rintro e w10 ⟨uK, rfl, ho, hb⟩
  have K := Lib.hid (readM HS8.out ho)
  have C := Lib.hid (C.out.keep hb)
  have X := Lib.hid (X.out.keep hb)
  have HB := Lib.hid (HB.out.trans (hb.mono HB.out.size))
  clear ho hb
  go_wp2_with fail
  refine (c_SCommonSpace _ c _ xs _ C.out X.out).mono ?_
  rw [H8.out]
  rintro e w11 ⟨uK2, rfl, ho, hb⟩
  have K2 := Lib.hid (readM HS8.out ho)
  have C := Lib.hid (C.out.keep hb)
  have X := Lib.hid (X.out.keep hb)
  have K := Lib.hid (K.out.keep hb)
  have HB := Lib.hid (HB.out.trans (hb.mono HB.out.size))
  clear ho hb
  go_wp2_with fail
  refine (q_likeRows5 _ _ l _ K.out K2.out).mono ?_
  rintro e w12 ⟨rfl, hd⟩
  have hb := hd.below w11.heap.size
  have C := Lib.hid (C.out.keep hb)
  have X := Lib.hid (X.out.keep hb)
  have K := Lib.hid (K.out.keep hb)
  have K2 := Lib.hid (K2.out.keep hb)
  have HB := Lib.hid (HB.out.trans (hb.mono HB.out.size))
  clear hb hd
  clear K2
  obtain ⟨n, s, g, rfl, hs16, hn2, hall⟩ := com_forms H8.out
  have HALL := Lib.hid hall
  obtain ⟨aC, cC, rfl⟩ := cubesShape C.out
  obtain ⟨aX, cX, rfl⟩ := intsShape X.out
  obtain ⟨aK, cK, rfl⟩ := rowsShape K.out
  rw [tabF_length] at K ⊢
  have hmk := run_make_row' (P := Try.prog) 35 2 (.int .i64 0) 8 Try.underlying35 info_int rfl .i64 .i64 n (by omega) (by omega)
  have hcl : c.length ≤ 5864062014634 := by obtain ⟨_, _, _, h, _⟩ := C.out; exact h
  clear hall H8 HS8
  go_wp2_with fail
  obtain ⟨wl, rfl⟩ : ∃ wl : World, wl = w12 := ⟨_, rfl⟩
  go_loopw [28] (fun iv wr => ∃ i : Nat, i ≤ s ∧ iv = .int .i64 i ∧ Hid (Below wl.heap.size wl wr)) (fun iv _ => s - (intOf iv).toNat)
  case atStart => exact ⟨0, Nat.zero_le _, rfl, Lib.hid (Below.refl _ _)⟩
  case round =>
    obtain ⟨i, hi, rfl, HBL⟩ := hrel
    by_cases hlt : i < s
    · go_wp2_with fail
      obtain ⟨wo, rfl⟩ : ∃ wo : World, wo = wr := ⟨_, rfl⟩
      go_loopw [29] (fun kv wr => ∃ k : Nat, k ≤ c.length ∧ kv = .int .i64 k ∧ Hid (Below wl.heap.size wl wr)) (fun kv _ => c.length - (intOf kv).toNat)
      case atStart => exact ⟨0, Nat.zero_le _, rfl, HBL⟩
      case round =>
        clear HBL
        obtain ⟨k, hk, rfl, HBL⟩ := hrel
        by_cases hkl : k < c.length
        · obtain ⟨m, hm⟩ : ∃ m, c[k]? = some m := ⟨c[k], by simp [hkl]⟩
          obtain ⟨f, t, hmf, hn, hxt, hxl, hker⟩ := HALL.out k m (by omega) hm
          have HAi : Hid (appN m (zl n (g i)) = (zl n fun j => 0 + t * g i j, 0)) := Lib.hid (by rw [hmf, appN_F f _ hn hn, hker i hlt])
          obtain ⟨bC, oC, um, rfl, k1, hM⟩ := cube_cell (C.out.keep HBL.out) hm
          obtain ⟨bX, oX, rfl, k2⟩ := int_cell (X.out.keep HBL.out) hxt
          obtain ⟨b, off, uv, rfl, k3, hI⟩ := rowAt (K.out.keep HBL.out) (tabF_at n g hlt)
          obtain ⟨av, cv, rfl⟩ := intsShape hI
          rw [zl_length] at hI k3
          have HI := Lib.hid hI
          have HM := Lib.hid hM
          have hkx : k < xs.length := by omega
          have hsI : (i : Int) < (s : Int) := by omega
          have hkI : (k : Int) < (c.length : Int) := by omega
          have hkX : (k : Int) < (xs.length : Int) := by omega
          clear hI hM hm hmf hxt hker hn
          have HAM := Lib.hid (c_ApplyMatrix um m _ (zl n (g i)) wr.drew (HM.out.keep (below_toDrewN 1 _ wr)) (HI.out.keep (below_toDrewN 1 _ wr)))
          rw [HAi.out] at HAM
          have hkb : k ≤ 5864062014634 := by omega
          have hib : i ≤ 16 := by omega
          have hl1 := Ints.lt k1
          have hl2 := Ints.lt k2
          have hl3 := Ints.lt k3
          clear hxl
          go_upto_region 41 with fail
          obtain ⟨wq, rfl⟩ : ∃ wq : World, wq = wr := ⟨_, rfl⟩
          go_cut [30, 31] (fun s30 s31 wx => ∃ ax cx, s30 = .slice ax n cx ∧ s31 = .int .i64 0 ∧ Ints wx (.slice ax n cx) (zl n fun j => 0 + t * g i j) ∧ Below wq.heap.size wq wx)
          case first =>
            go_wp2_with fail
            go_region_with
              (go_at_call 22; refine HAM.out.mono ?_; rintro e wx ⟨ux, rfl, ho, hb⟩)
            all_goals
              have hb' := Below.ofDrew hb
              have HX := Lib.hid (readI (by rw [zl_length]; omega) ho)
              obtain ⟨ax, cx, rfl⟩ := intsShape HX.out
              rw [zl_length] at HX ⊢
              go_wp2_with fail
              go_meet
              case rel => exact ⟨ax, cx, rfl, rfl, HX.out, hb'⟩
          obtain ⟨ax, cx, rfl, rfl, hX, hb'⟩ := hcut
          obtain ⟨wx, rfl⟩ : ∃ wx : World, wx = wc := ⟨_, rfl⟩
          have HX := Lib.hid hX
          have HBX := Lib.hid (HBL.out.trans (hb'.mono HBL.out.size))
          have q1 := bcell hb' k1
          have q2 := bcell hb' k2
          have q3 := bcell hb' k3
          have HIX := Lib.hid (HI.out.keep hb')
          have l2 := Ints.lt q2
          have l3 := Ints.lt q3
          clear hX hb' k1 k2 k3 HI HM HAM
          have HPL := Lib.hid (c_plus5 _ _ n (fun _ => 0) (g i) t (wx.drew.alloc (.cells (madeCells #[.int .i64 0] n) 2)) (zeros_ints wx.drew n (by omega)) ((HIX.out.keep (below_toDrewN 1 _ _)).keep (below_alloc _ _)) (by omega))
          go_wp2_with fail
          have HLA : Hid (b < (wx.drew.alloc (.cells (madeCells #[.int .i64 0] n) 2)).heap.size ∧ bX < (wx.drew.alloc (.cells (madeCells #[.int .i64 0] n) 2)).heap.size) := Lib.hid ⟨Nat.lt_of_lt_of_le l3 (below_alloc wx.drew _).size, Nat.lt_of_lt_of_le l2 (below_alloc wx.drew _).size⟩
          go_region_held3 (fun w' => w'.cell? ⟨b, off + i, none⟩ = some (.slice av n cv) ∧ w'.cell? ⟨bX, oX + k, none⟩ = some (.int .i64 (toI t)))
            (first | go_keep | (refine ⟨bkeep hbp HLA.out.1 ?_, bkeep hbp HLA.out.2 ?_⟩ <;> go_keep) | (refine ⟨bkeep hb7 HL6.out.1 ?_, bkeep hb7 HL6.out.2 ?_⟩ <;> go_keep))
            ((first
              | (go_at_call 34; refine HPL.out.mono ?_; rintro e w6 ⟨up, rfl, hop, hbp⟩; have hp6 := Below.trans (below_alloc wx.drew (.cells (madeCells #[.int .i64 0] n) 2)) (hbp.mono (by simp)); have HP := Lib.hid (readI (by rw [zl_length]; omega) hop); have HXP := Lib.hid ((HX.out.keep (below_toDrewN 1 _ _)).keep hp6); have HL6 : Hid (b < w6.heap.size ∧ bX < w6.heap.size) := Lib.hid ⟨Nat.lt_of_lt_of_le l3 hp6.size, Nat.lt_of_lt_of_le l2 hp6.size⟩)
              | (go_at_call 29; refine (q_likeInts _ _ (zl n fun j => 0 + t * g i j) _ HXP.out HP.out).mono ?_; rintro e w7 ⟨rfl, hd7⟩; have hb7 := hd7.below w6.heap.size)))
          all_goals
            have hb8 := HBX.out.trans (((below_toDrewN 1 _ _).trans (hp6.trans (hb7.mono hp6.size))).mono HBX.out.size)
            clear hd7 hb7 hop hbp hp6
            go_wp2_with fail
            go_roundw
            case rel => exact ⟨k + 1, by omega, by go_num, Lib.hid hb8⟩
            case measure => simp [intOf]; omega
        · obtain rfl : k = c.length := by omega
          go_wp2_with fail
          go_roundw
          case rel => exact ⟨i + 1, by omega, by go_num, HBL⟩
          case measure => simp [intOf]; omega
    · obtain rfl : s = i := by omega
      go_wp2_with fail
      go_ret
      exact ⟨rfl, HB.out.trans (HBL.out.mono HB.out.size)⟩
end Go.Proofs.Ytmbcncmmgfnlmaa
