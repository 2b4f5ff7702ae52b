/- Walk of the law on numbers: it returns true. -/
import Derived.Test.YtdddimhonkbapaaDrz
namespace Go.Proofs.Ytdddimhonkbapaa
open Go.RowKit
theorem c_big (u : Value) (bs : List Int) (w : World) (hu : Bytes w u bs) :
    Calls Try.prog 16 #[u] w fun e w' => e = .returned (.bool (decide (4096 < (bs.length : Int)))) ∧ w = w' := by
  obtain ⟨a, cap, rfl, _, hc⟩ := hu
  clear hc
  go_enter Try.func16, Try.ntmps16
  go_wp2_with fail
  go_ret
  exact ⟨rfl, rfl⟩
theorem powN_ok {b k : Int} (hb : isNum b = true) (h0 : b ≠ 0) (h1 : -1000000 ≤ k) (h2 : k ≤ 1000000) : powN b k = (zpw b k, 0) := by
  unfold powN
  rw [if_pos ⟨hb, by simp [inR, h1, h2]⟩, if_neg (fun h => h0 h.1)]
set_option maxRecDepth 100000 in
set_option maxHeartbeats 0 in
theorem w_FnNumbers (u : Value) (bs : List Int) (w : World) (hu : Bytes w u bs) :
    Calls Try.prog 6 #[u] w fun e w' => e = .returned (.bool true) ∧ Below w.heap.size w w' := by
  have HU := Lib.hid hu
  obtain ⟨ap, cp, rfl, _, _⟩ := hu
  by_cases hl : bs.length ≤ 4096
  case neg =>
    have HDB : Hid (decide (4096 < (bs.length : Int)) = true) := Lib.hid (decide_eq_true (by omega))
    go_enter Try.func6, Try.ntmps6
    go_wp2_with fail
    refine (c_big _ bs _ HU.out).mono ?_
    rintro e w1 ⟨rfl, rfl⟩
    rw [HDB.out]
    go_wp2_with fail
    go_ret
    exact ⟨rfl, Below.refl _ _⟩
  have HDB : Hid (decide (4096 < (bs.length : Int)) = false) := Lib.hid (decide_eq_false (by omega))
  go_enter Try.func6, Try.ntmps6
  go_wp2_with fail
  refine (c_big _ bs _ HU.out).mono ?_
  rintro e w1 ⟨rfl, rfl⟩
  rw [HDB.out]
  go_wp2_with fail
  refine (c_DrawDivideNumbers _ bs _ HU.out hl).mono ?_
  rintro e w1 ⟨a, b, rfl, hb⟩
  have HB := Lib.hid hb
  clear hb
  obtain ⟨⟨q, c1⟩, hd⟩ : ∃ r, divN a b = r := ⟨_, rfl⟩
  have HD := Lib.hid hd
  clear hd
  go_wp2_with fail
  refine (c_DivideNumbers a b _).mono ?_
  rintro e w2 ⟨rfl, hb⟩
  rw [HD.out]
  unfold two
  have HB := Lib.hid (HB.out.trans (hb.mono HB.out.size))
  clear hb
  go_wp2_with fail
  refine (c_SDivideNumbers a b _).mono ?_
  rintro e w3 ⟨rfl, rfl⟩
  rw [HD.out]
  unfold two
  go_wp2_with fail
  refine (c_IsNumber a _).mono ?_
  rintro e w3 ⟨rfl, rfl⟩
  go_wp2_with fail
  refine (c_SIsNumber a _).mono ?_
  rintro e w3 ⟨rfl, rfl⟩
  go_wp2_with fail
  refine (c_DrawFractionNumber _ bs _ (HU.out.keep HB.out) hl).mono ?_
  rintro e w3 ⟨x, y, rfl, hb⟩
  have HB := Lib.hid (HB.out.trans (hb.mono HB.out.size))
  clear hb
  obtain ⟨⟨f, c2⟩, hf⟩ : ∃ r, fracN x y = r := ⟨_, rfl⟩
  have HF := Lib.hid hf
  clear hf
  go_wp2_with fail
  refine (c_FractionNumber x y _).mono ?_
  rintro e w4 ⟨rfl, rfl⟩
  rw [HF.out]
  unfold two
  go_wp2_with fail
  refine (c_SFractionNumber x y _).mono ?_
  rintro e w4 ⟨rfl, rfl⟩
  rw [HF.out]
  unfold two
  by_cases h1 : c1 = 0
  case neg =>
    have h1B : (c1 != 0) = true := by simp [h1]
    by_cases h2 : c2 = 0
    case neg =>
      have h2B : (c2 == 0) = false := by simp [h2]
      go_wp2_with fail
      go_ret
      exact ⟨rfl, HB.out⟩
    subst h2
    obtain ⟨⟨hf1, hf2⟩, hf3⟩ := fracN_ok HF.out
    have hy1 := Int.emod_nonneg y (show (55441 : Int) ≠ 0 by decide)
    have hy2 := Int.emod_lt_of_pos y (show (0 : Int) < 55441 by decide)
    obtain ⟨ym, hym⟩ : ∃ t, t = y % 55441 := ⟨_, rfl⟩
    rw [← hym] at hf3 hy1 hy2
    have HYM := Lib.hid hym
    have HF3 := Lib.hid hf3
    have hpr := prod_bd hf1 hf2 hy1 hy2
    obtain ⟨hpr1, hpr2⟩ := hpr
    clear hym hf3
    go_wp2_with fail
    refine (c_mod5 y _).mono ?_
    rintro e w4 ⟨rfl, rfl⟩
    rw [← HYM.out]
    go_wp2_with fail
    refine (c_mod5 (f * ym) _).mono ?_
    rintro e w4 ⟨rfl, rfl⟩
    rw [HF3.out]
    go_wp2_with fail
    refine (c_mod5 x _).mono ?_
    rintro e w4 ⟨rfl, rfl⟩
    go_wp2_with fail
    go_ret
    exact ⟨rfl, HB.out⟩
  subst h1
  obtain ⟨⟨ha1, ha2⟩, ⟨hb1, hb2⟩, hq⟩ := divN_ok HD.out
  have NA := isNum_yes ha1 ha2
  have NB := isNum_yes (show 0 ≤ b by omega) hb2
  have NQ : isNum q = true := isNum_yes (by omega) (by omega)
  have HQ := Lib.hid hq
  have HNA := Lib.hid NA
  have HNB := Lib.hid NB
  have HNQ := Lib.hid NQ
  clear hq NA NB NQ
  by_cases h2 : c2 = 0
  all_goals first
    | (subst h2
       obtain ⟨⟨hf1, hf2⟩, hf3⟩ := fracN_ok HF.out
       have hy1 := Int.emod_nonneg y (show (55441 : Int) ≠ 0 by decide)
       have hy2 := Int.emod_lt_of_pos y (show (0 : Int) < 55441 by decide)
       obtain ⟨ym, hym⟩ : ∃ t, t = y % 55441 := ⟨_, rfl⟩
       rw [← hym] at hf3 hy1 hy2
       have HYM := Lib.hid hym
       have HF3 := Lib.hid hf3
       have hpr := prod_bd hf1 hf2 hy1 hy2
       obtain ⟨hpr1, hpr2⟩ := hpr
       clear hym hf3
       go_wp2_with fail
       refine (c_mod5 y _).mono ?_
       rintro e w4 ⟨rfl, rfl⟩
       rw [← HYM.out]
       go_wp2_with fail
       refine (c_mod5 (f * ym) _).mono ?_
       rintro e w4 ⟨rfl, rfl⟩
       rw [HF3.out]
       go_wp2_with fail
       refine (c_mod5 x _).mono ?_
       rintro e w4 ⟨rfl, rfl⟩
       go_wp2_with fail)
    | (have h2B : (c2 == 0) = false := by simp [h2]
       go_wp2_with fail)
  all_goals
    have hsz := HB.out.size
    refine (c_roll _ bs _ 901 (HU.out.keep HB.out) hl).mono ?_
    rintro e w5 ⟨v, rfl, hs, hb⟩
    have HS := Lib.hid hs
    have HB := Lib.hid (HB.out.trans (hb.mono hsz))
    clear hs hb
    go_wp2_with fail
    refine (c_dice v 55441 _ _ _ HS.out (by omega) (by omega)).mono ?_
    rintro e w6 ⟨c, rfl, hc1, hc2, hs, hb⟩
    have HS := Lib.hid hs
    have HB := Lib.hid (HB.out.trans (hb.mono hsz))
    clear hs hb
    go_wp2_with fail
    refine (c_dice v 2000 _ _ _ HS.out (by omega) (by omega)).mono ?_
    rintro e w7 ⟨m, rfl, hm1, hm2, hs, hb⟩
    have HS := Lib.hid hs
    have HB := Lib.hid (HB.out.trans (hb.mono hsz))
    clear hs hb
    go_wp2_with fail
    refine (c_dice v 2000 _ _ _ HS.out (by omega) (by omega)).mono ?_
    rintro e w8 ⟨n, rfl, hn1, hn2, hs, hb⟩
    have HB := Lib.hid (HB.out.trans (hb.mono hsz))
    clear hs hb
    obtain ⟨p, hp⟩ : ∃ p, p = (a + b) % 55441 := ⟨_, rfl⟩
    have hp1 : 0 ≤ p := by omega
    have hp2 : p < 55441 := by omega
    obtain ⟨l, hlv⟩ : ∃ l, l = p * c % 55441 := ⟨_, rfl⟩
    have NP := isNum_yes hp1 hp2
    have NC := isNum_yes hc1 hc2
    have M1 : Hid (mulN q b = (a, 0)) := Lib.hid (by unfold mulN; rw [both_yes HNQ.out HNB.out, HQ.out, quot_back a b ha1 ha2 hb1 hb2])
    have M2 : Hid (addN a b = (p, 0)) := Lib.hid (by unfold addN; rw [both_yes HNA.out HNB.out, hp])
    have M3 : Hid (subN p b = (a, 0)) := Lib.hid (by unfold subN; rw [both_yes NP HNB.out, hp, less_back a b ha1 ha2])
    have M4 : Hid (mulN p c = (l, 0)) := Lib.hid (by unfold mulN; rw [both_yes NP NC, hlv])
    have ML : Hid (((a * c) % 55441 + b * c) % 55441 = l) := Lib.hid (by rw [hlv, hp, left_eq])
    have P1 := Lib.hid (powN_ok HNB.out (by omega) (show -1000000 ≤ m - 1000 by omega) (by omega))
    have P2 := Lib.hid (powN_ok HNB.out (by omega) (show -1000000 ≤ n - 1000 by omega) (by omega))
    have P3 := Lib.hid (powN_ok HNB.out (by omega) (show -1000000 ≤ m - 1000 + (n - 1000) by omega) (by omega))
    have MZ := Lib.hid (zpw_add b (m - 1000) (n - 1000) hb1 hb2)
    have hu := zpw_bd b (m - 1000)
    have hv := zpw_bd b (n - 1000)
    obtain ⟨r1, h1⟩ : ∃ r, r = zpw b (m - 1000) := ⟨_, rfl⟩
    obtain ⟨r2, h2⟩ : ∃ r, r = zpw b (n - 1000) := ⟨_, rfl⟩
    obtain ⟨r3, h3⟩ : ∃ r, r = zpw b (m - 1000 + (n - 1000)) := ⟨_, rfl⟩
    rw [← h1] at P1 MZ hu
    rw [← h2] at P2 MZ hv
    rw [← h3] at P3 MZ
    have hac := prod_bd ha1 ha2 hc1 hc2
    have hbc := prod_bd (show 0 ≤ b by omega) hb2 hc1 hc2
    have huv := prod_bd hu.1 hu.2 hv.1 hv.2
    obtain ⟨hac1, hac2⟩ := hac
    obtain ⟨hbc1, hbc2⟩ := hbc
    obtain ⟨huv1, huv2⟩ := huv
    obtain ⟨o, ho⟩ : ∃ o, o = a * c % 55441 := ⟨_, rfl⟩
    have ho1 : 0 ≤ o := by omega
    have ho2 : o < 55441 := by omega
    rw [← ho] at ML
    have HO := Lib.hid ho
    clear hp hlv h1 h2 h3 ho NP NC
    go_wp2_with fail
    refine (c_MultiplyNumbers q b _).mono ?_
    rintro e w9 ⟨rfl, hb⟩
    rw [M1.out]
    unfold two
    have HB := Lib.hid (HB.out.trans (hb.mono HB.out.size))
    clear hb
    go_wp2_with fail
    refine (c_AddNumbers a b _).mono ?_
    rintro e w10 ⟨rfl, hb⟩
    rw [M2.out]
    unfold two
    have HB := Lib.hid (HB.out.trans (hb.mono HB.out.size))
    clear hb
    go_wp2_with fail
    refine (c_SubtractNumbers p b _).mono ?_
    rintro e w11 ⟨rfl, hb⟩
    rw [M3.out]
    unfold two
    have HB := Lib.hid (HB.out.trans (hb.mono HB.out.size))
    clear hb
    go_wp2_with fail
    refine (c_MultiplyNumbers p c _).mono ?_
    rintro e w12 ⟨rfl, hb⟩
    rw [M4.out]
    unfold two
    have HB := Lib.hid (HB.out.trans (hb.mono HB.out.size))
    clear hb
    go_wp2_with fail
    refine (c_PowerNumber b (m - 1000) _).mono ?_
    rintro e w13 ⟨rfl, rfl⟩
    rw [P1.out]
    unfold two
    go_wp2_with fail
    refine (c_PowerNumber b (n - 1000) _).mono ?_
    rintro e w13 ⟨rfl, rfl⟩
    rw [P2.out]
    unfold two
    go_wp2_with fail
    refine (c_PowerNumber b (m - 1000 + (n - 1000)) _).mono ?_
    rintro e w13 ⟨rfl, rfl⟩
    rw [P3.out]
    unfold two
    go_wp2_with fail
    refine (c_mod5 (a * c) _).mono ?_
    rintro e w13 ⟨rfl, rfl⟩
    rw [← HO.out]
    go_wp2_with fail
    refine (c_mod5 (o + b * c) _).mono ?_
    rintro e w13 ⟨rfl, rfl⟩
    rw [ML.out]
    go_wp2_with fail
    refine (c_mod5 (r1 * r2) _).mono ?_
    rintro e w13 ⟨rfl, rfl⟩
    rw [MZ.out]
    go_wp2_with fail
    go_ret
    exact ⟨by first | rfl | simp, HB.out⟩
end Go.Proofs.Ytdddimhonkbapaa
