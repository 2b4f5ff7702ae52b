/- The law FnNumberTexts: its walk. -/
import Derived.Test.YtcgmbpkichfalaaDoorDpn
import Derived.Test.YtcgmbpkichfalaaDoorPst
import Derived.Test.YtcgmbpkichfalaaDoorLad
namespace Go.Proofs.YtcgmbpkichfalaaDoor
open Go.RowKit Txt
/-- of the row that lists five (in the same order as ParseNumber's) -/
theorem laidW_ofT {W : World} (h : laidMetH Tryd.prog Rows.fnNumberTextsRow.laid W) (hS : W.ShapedOpen Tryd.prog) : LaidW W := laidW_of h hS
theorem parse_forms (l : List UInt8) : parseN l = (0, 6) ∨ ∃ b, parseN l = (b, 0) ∧ textN b = (l, 0) := by
  unfold parseN
  cases h : (parseI l).2
  · left; simp
  · right
    have hb := parseI_bd l
    refine ⟨(parseI l).1, by simp, ?_⟩
    unfold textN
    rw [if_pos (isNum_yes hb.1 hb.2), parseI_ok h]
theorem num_forms (a : Int) : (textN a = ([], 2) ∧ shortN a = (0, 0, 2)) ∨ (0 ≤ a ∧ a < 55441 ∧ textN a = (txt a, 0) ∧ (shortN a = (0, 0, 4) ∨ ∃ p q, shortN a = (p, q, 0) ∧ 1 ≤ q ∧ q ≤ 166 ∧ -166 ≤ p ∧ p ≤ 166 ∧ (a * q - p) % 55441 = 0)) := by
  cases h : isNum a
  · left
    refine ⟨?_, ?_⟩
    · unfold textN; rw [if_neg (by rw [h]; simp)]
    · unfold shortN; rw [if_neg (by rw [h]; simp)]
  · right
    have hb := isNum_true h
    refine ⟨hb.1, hb.2, ?_, ?_⟩
    · unfold textN; rw [if_pos h]
    · unfold shortN
      rw [if_pos h]
      rcases Fus.shortF_cases a with e | ⟨q, hq1, hq2, e, hp1, hp2, _⟩
      · left; rw [e]; rfl
      · right
        have hm := Fus.cres_mod a q
        refine ⟨Fus.cres a q, q, ?_, hq1, hq2, hp1, hp2, by omega⟩
        rw [e]
        dsimp only
        rw [if_neg (by omega)]
theorem c_mod5 (a : Int) (w : World) :
    Calls Tryd.prog 14 #[.int .i64 a] w fun e w' => e = .returned (.int .i64 (a % 55441)) ∧ w = w' := by
  have hb := tmod_bd a
  go_enter Tryd.func14, Tryd.ntmps14
  go_wp2
  go_ret
  exact ⟨ret_int (tmod_mod a), rfl⟩
theorem c_big (u : Value) (bs : List Int) (w : World) (hu : Bytes w u bs) :
    Calls Tryd.prog 10 #[u] w fun e w' => e = .returned (.bool (decide (4096 < (bs.length : Int)))) ∧ w = w' := by
  obtain ⟨a, cap, rfl, _, hc⟩ := hu
  clear hc
  go_enter Tryd.func10, Tryd.ntmps10
  go_wp2_with fail
  go_ret
  exact ⟨rfl, rfl⟩
theorem c_DrawNumberText (q : Value) (bs : List Int) (w : World) (hq : Bytes w q bs) (hl : bs.length ≤ 4096) :
    Calls Tryd.prog 11 #[q] w fun e w' => ∃ x : Int, e = .returned (.int .i64 x) ∧ Below w.heap.size w w' := by
  go_enter Tryd.func11, Tryd.ntmps11
  go_wp2_with fail
  refine (c_l01From q bs _ hq hl).mono ?_
  rintro e w1 ⟨v, rfl, hs1, hb1⟩
  have HS1 := Lib.hid hs1
  have HB1 := Lib.hid hb1
  clear hs1 hb1
  go_wp2_with fail
  refine (k_l01Spoil v _ _ _ HS1.out).mono ?_
  rintro e w2 ⟨x, rfl, hs2, hk2⟩
  have HB2 := Lib.hid (HB1.out.trans (hk2.below (Nat.le_refl _) HB1.out.size))
  clear hs2 hk2
  go_wp2_with fail
  go_ret
  exact ⟨x, rfl, HB2.out⟩
set_option maxRecDepth 100000 in
set_option maxHeartbeats 8000000 in
theorem w_FnNumberTexts (u : Value) (bs : List Int) (w : World) (hu : Bytes w u bs) (ht : LaidW w) :
    Calls Tryd.prog 5 #[u] w fun e w' => e = .returned (.bool true) ∧ Below w.heap.size w w' := by
  have HU := Lib.hid hu
  have HT := Lib.hid ht
  clear ht
  obtain ⟨ap, cp, rfl, _, _⟩ := hu
  by_cases hl : bs.length ≤ 4096
  case neg =>
    have HDB : Hid (decide (4096 < (bs.length : Int)) = true) := Lib.hid (decide_eq_true (by omega))
    go_enter Tryd.func5, Tryd.ntmps5
    go_wp2_with fail
    refine (c_big _ bs _ HU.out).mono ?_
    rintro e w1 ⟨rfl, rfl⟩
    rw [HDB.out]
    go_wp2_with fail
    go_ret
    exact ⟨rfl, Below.refl _ _⟩
  have HDB : Hid (decide (4096 < (bs.length : Int)) = false) := Lib.hid (decide_eq_false (by omega))
  go_enter Tryd.func5, Tryd.ntmps5
  go_wp2_with fail
  refine (c_big _ bs _ HU.out).mono ?_
  rintro e w0 ⟨rfl, rfl⟩
  rw [HDB.out]
  go_wp2_with fail
  refine (c_DrawNumberText _ bs _ HU.out hl).mono ?_
  rintro e w1 ⟨a, rfl, hb⟩
  have HT := Lib.hid (HT.out.keep hb)
  have HU := Lib.hid (HU.out.keep hb)
  have HB := Lib.hid hb
  clear hb HDB
  rcases num_forms a with ⟨hx, hf⟩ | ⟨h1, h2, hx, hf | ⟨p, q, hf, hq1, hq2, hp1, hp2, hm⟩⟩
  · have HX := Lib.hid hx
    have HF := Lib.hid hf
    clear hx hf
    go_wp2_with fail
    refine (c_NumberText a _ HT.out.1).mono ?_
    rw [HX.out]
    unfold twoT
    rintro e w2 ⟨rfl, hb⟩
    have HT := Lib.hid (HT.out.keep hb)
    have HU := Lib.hid (HU.out.keep hb)
    have HB := Lib.hid (HB.out.trans (hb.mono HB.out.size))
    clear hb
    go_wp2_with fail
    refine (c_SNumberText a _).mono ?_
    rw [HX.out]
    unfold twoT
    rintro e w3 ⟨rfl, hb⟩
    have HT := Lib.hid (HT.out.keep hb)
    have HU := Lib.hid (HU.out.keep hb)
    have HB := Lib.hid (HB.out.trans (hb.mono HB.out.size))
    clear hb
    go_wp2_with fail
    refine (c_ShortFraction a _).mono ?_
    rw [HF.out]
    unfold three
    rintro e w4 ⟨rfl, hb⟩
    have HT := Lib.hid (HT.out.keep hb)
    have HU := Lib.hid (HU.out.keep hb)
    have HB := Lib.hid (HB.out.trans (hb.mono HB.out.size))
    clear hb
    go_wp2_with fail
    refine (c_SShortFraction a _).mono ?_
    rw [HF.out]
    unfold three
    rintro e w5 ⟨rfl, rfl⟩
    go_wp2_with fail
    refine (c_DrawParseNumber _ bs _ HU.out hl).mono ?_
    rintro e wA ⟨l, rfl, hll, hb⟩
    have HT := Lib.hid (HT.out.keep hb)
    have HB := Lib.hid (HB.out.trans (hb.mono HB.out.size))
    clear hb HU
    unfold tv
    rcases parse_forms l with h | ⟨b, h, ht⟩
    · have H := Lib.hid h
      clear h
      go_wp2_with fail
      refine (c_ParseNumber l _ (by omega) HT.out).mono ?_
      rw [H.out]
      unfold two
      rintro e wB ⟨rfl, hb⟩
      have HB := Lib.hid (HB.out.trans (hb.mono HB.out.size))
      clear hb HT
      go_wp2_with fail
      refine (c_SParseNumber l _ (by omega)).mono ?_
      rw [parse_same, H.out]
      unfold two
      rintro e wC ⟨rfl, hb⟩
      have HB := Lib.hid (HB.out.trans (hb.mono HB.out.size))
      clear hb
      go_wp2_with fail
      go_ret
      exact ⟨rfl, HB.out⟩
    · have H := Lib.hid h
      have HX := Lib.hid ht
      clear h ht
      go_wp2_with fail
      refine (c_ParseNumber l _ (by omega) HT.out).mono ?_
      rw [H.out]
      unfold two
      rintro e wB ⟨rfl, hb⟩
      have HT := Lib.hid (HT.out.keep hb)
      have HB := Lib.hid (HB.out.trans (hb.mono HB.out.size))
      clear hb
      go_wp2_with fail
      refine (c_SParseNumber l _ (by omega)).mono ?_
      rw [parse_same, H.out]
      unfold two
      rintro e wC ⟨rfl, hb⟩
      have HT := Lib.hid (HT.out.keep hb)
      have HB := Lib.hid (HB.out.trans (hb.mono HB.out.size))
      clear hb
      go_wp2_with fail
      refine (c_NumberText b _ HT.out.1).mono ?_
      rw [HX.out]
      unfold twoT
      rintro e wD ⟨rfl, hb⟩
      have HB := Lib.hid (HB.out.trans (hb.mono HB.out.size))
      clear hb HT
      go_wp2_with fail
      go_ret
      exact ⟨rfl, HB.out⟩
  · have HX := Lib.hid hx
    have HF := Lib.hid hf
    clear hx hf
    go_wp2_with fail
    refine (c_NumberText a _ HT.out.1).mono ?_
    rw [HX.out]
    unfold twoT
    rintro e w2 ⟨rfl, hb⟩
    have HT := Lib.hid (HT.out.keep hb)
    have HU := Lib.hid (HU.out.keep hb)
    have HB := Lib.hid (HB.out.trans (hb.mono HB.out.size))
    clear hb
    go_wp2_with fail
    refine (c_SNumberText a _).mono ?_
    rw [HX.out]
    unfold twoT
    rintro e w3 ⟨rfl, hb⟩
    have HT := Lib.hid (HT.out.keep hb)
    have HU := Lib.hid (HU.out.keep hb)
    have HB := Lib.hid (HB.out.trans (hb.mono HB.out.size))
    clear hb
    go_wp2_with fail
    refine (c_ShortFraction a _).mono ?_
    rw [HF.out]
    unfold three
    rintro e w4 ⟨rfl, hb⟩
    have HT := Lib.hid (HT.out.keep hb)
    have HU := Lib.hid (HU.out.keep hb)
    have HB := Lib.hid (HB.out.trans (hb.mono HB.out.size))
    clear hb
    go_wp2_with fail
    refine (c_SShortFraction a _).mono ?_
    rw [HF.out]
    unfold three
    rintro e w5 ⟨rfl, rfl⟩
    go_wp2_with fail
    refine (c_ParseNumber (txt a) _ (by have := txt_len h1 h2; omega) HT.out).mono ?_
    rw [parseN_txt a h1 h2]
    unfold two
    rintro e w6 ⟨rfl, hb⟩
    have HT := Lib.hid (HT.out.keep hb)
    have HU := Lib.hid (HU.out.keep hb)
    have HB := Lib.hid (HB.out.trans (hb.mono HB.out.size))
    clear hb
    go_wp2_with fail
    refine (c_DrawParseNumber _ bs _ HU.out hl).mono ?_
    rintro e wA ⟨l, rfl, hll, hb⟩
    have HT := Lib.hid (HT.out.keep hb)
    have HB := Lib.hid (HB.out.trans (hb.mono HB.out.size))
    clear hb HU
    unfold tv
    rcases parse_forms l with h | ⟨b, h, ht⟩
    · have H := Lib.hid h
      clear h
      go_wp2_with fail
      refine (c_ParseNumber l _ (by omega) HT.out).mono ?_
      rw [H.out]
      unfold two
      rintro e wB ⟨rfl, hb⟩
      have HB := Lib.hid (HB.out.trans (hb.mono HB.out.size))
      clear hb HT
      go_wp2_with fail
      refine (c_SParseNumber l _ (by omega)).mono ?_
      rw [parse_same, H.out]
      unfold two
      rintro e wC ⟨rfl, hb⟩
      have HB := Lib.hid (HB.out.trans (hb.mono HB.out.size))
      clear hb
      go_wp2_with fail
      go_ret
      exact ⟨rfl, HB.out⟩
    · have H := Lib.hid h
      have HX := Lib.hid ht
      clear h ht
      go_wp2_with fail
      refine (c_ParseNumber l _ (by omega) HT.out).mono ?_
      rw [H.out]
      unfold two
      rintro e wB ⟨rfl, hb⟩
      have HT := Lib.hid (HT.out.keep hb)
      have HB := Lib.hid (HB.out.trans (hb.mono HB.out.size))
      clear hb
      go_wp2_with fail
      refine (c_SParseNumber l _ (by omega)).mono ?_
      rw [parse_same, H.out]
      unfold two
      rintro e wC ⟨rfl, hb⟩
      have HT := Lib.hid (HT.out.keep hb)
      have HB := Lib.hid (HB.out.trans (hb.mono HB.out.size))
      clear hb
      go_wp2_with fail
      refine (c_NumberText b _ HT.out.1).mono ?_
      rw [HX.out]
      unfold twoT
      rintro e wD ⟨rfl, hb⟩
      have HB := Lib.hid (HB.out.trans (hb.mono HB.out.size))
      clear hb HT
      go_wp2_with fail
      go_ret
      exact ⟨rfl, HB.out⟩
  · have HX := Lib.hid hx
    have HF := Lib.hid hf
    have hprod : 0 ≤ a * q ∧ a * q ≤ 55441 * 166 := ⟨Int.mul_nonneg h1 (by omega), Int.mul_le_mul (by omega) hq2 (by omega) (by omega)⟩
    obtain ⟨hpr1, hpr2⟩ := hprod
    have hw1 : IntKind.i64.wrap (a * q) = a * q := IntWalk.i64_in _ (by omega)
    have hw2 : IntKind.i64.wrap (a * q - p) = a * q - p := IntWalk.i64_in _ (by omega)
    have hqB : decide (q < 1) = false := decide_eq_false (by omega)
    have HM := Lib.hid hm
    clear hx hf hm
    go_wp2_with fail
    refine (c_NumberText a _ HT.out.1).mono ?_
    rw [HX.out]
    unfold twoT
    rintro e w2 ⟨rfl, hb⟩
    have HT := Lib.hid (HT.out.keep hb)
    have HU := Lib.hid (HU.out.keep hb)
    have HB := Lib.hid (HB.out.trans (hb.mono HB.out.size))
    clear hb
    go_wp2_with fail
    refine (c_SNumberText a _).mono ?_
    rw [HX.out]
    unfold twoT
    rintro e w3 ⟨rfl, hb⟩
    have HT := Lib.hid (HT.out.keep hb)
    have HU := Lib.hid (HU.out.keep hb)
    have HB := Lib.hid (HB.out.trans (hb.mono HB.out.size))
    clear hb
    go_wp2_with fail
    refine (c_ShortFraction a _).mono ?_
    rw [HF.out]
    unfold three
    rintro e w4 ⟨rfl, hb⟩
    have HT := Lib.hid (HT.out.keep hb)
    have HU := Lib.hid (HU.out.keep hb)
    have HB := Lib.hid (HB.out.trans (hb.mono HB.out.size))
    clear hb
    go_wp2_with fail
    refine (c_SShortFraction a _).mono ?_
    rw [HF.out]
    unfold three
    rintro e w5 ⟨rfl, rfl⟩
    go_wp2_with fail
    refine (c_ParseNumber (txt a) _ (by have := txt_len h1 h2; omega) HT.out).mono ?_
    rw [parseN_txt a h1 h2]
    unfold two
    rintro e w6 ⟨rfl, hb⟩
    have HT := Lib.hid (HT.out.keep hb)
    have HU := Lib.hid (HU.out.keep hb)
    have HB := Lib.hid (HB.out.trans (hb.mono HB.out.size))
    clear hb
    go_wp2_with fail
    refine (c_mod5 _ _).mono ?_
    rintro e w7 ⟨rfl, rfl⟩
    rw [HM.out]
    go_wp2_with fail
    refine (c_DrawParseNumber _ bs _ HU.out hl).mono ?_
    rintro e wA ⟨l, rfl, hll, hb⟩
    have HT := Lib.hid (HT.out.keep hb)
    have HB := Lib.hid (HB.out.trans (hb.mono HB.out.size))
    clear hb HU
    unfold tv
    rcases parse_forms l with h | ⟨b, h, ht⟩
    · have H := Lib.hid h
      clear h
      go_wp2_with fail
      refine (c_ParseNumber l _ (by omega) HT.out).mono ?_
      rw [H.out]
      unfold two
      rintro e wB ⟨rfl, hb⟩
      have HB := Lib.hid (HB.out.trans (hb.mono HB.out.size))
      clear hb HT
      go_wp2_with fail
      refine (c_SParseNumber l _ (by omega)).mono ?_
      rw [parse_same, H.out]
      unfold two
      rintro e wC ⟨rfl, hb⟩
      have HB := Lib.hid (HB.out.trans (hb.mono HB.out.size))
      clear hb
      go_wp2_with fail
      go_ret
      exact ⟨rfl, HB.out⟩
    · have H := Lib.hid h
      have HX := Lib.hid ht
      clear h ht
      go_wp2_with fail
      refine (c_ParseNumber l _ (by omega) HT.out).mono ?_
      rw [H.out]
      unfold two
      rintro e wB ⟨rfl, hb⟩
      have HT := Lib.hid (HT.out.keep hb)
      have HB := Lib.hid (HB.out.trans (hb.mono HB.out.size))
      clear hb
      go_wp2_with fail
      refine (c_SParseNumber l _ (by omega)).mono ?_
      rw [parse_same, H.out]
      unfold two
      rintro e wC ⟨rfl, hb⟩
      have HT := Lib.hid (HT.out.keep hb)
      have HB := Lib.hid (HB.out.trans (hb.mono HB.out.size))
      clear hb
      go_wp2_with fail
      refine (c_NumberText b _ HT.out.1).mono ?_
      rw [HX.out]
      unfold twoT
      rintro e wD ⟨rfl, hb⟩
      have HB := Lib.hid (HB.out.trans (hb.mono HB.out.size))
      clear hb HT
      go_wp2_with fail
      go_ret
      exact ⟨rfl, HB.out⟩
end Go.Proofs.YtcgmbpkichfalaaDoor
