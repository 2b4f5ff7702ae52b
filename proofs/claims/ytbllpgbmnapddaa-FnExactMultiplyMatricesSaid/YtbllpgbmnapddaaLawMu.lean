/- Walks of laws that hold the program against the reference: each returns true. -/
import Derived.Test.YtbllpgbmnapddaaTim
namespace Go.Proofs.Ytbllpgbmnapddaa
open Go.RowKit
set_option maxHeartbeats 2000000 in
theorem w_FnExactMultiplyMatrices (ua : Value) (xa : List (List Int)) (ub : Value) (xb : List (List Int)) (w : World) (ga : IntRows w ua xa) (gb : IntRows w ub xb) :
    Calls Try.prog 7 #[ua, ub] w fun e w' => e = .returned (.bool true) ∧ Below w.heap.size w w' := by
  have GA := Lib.hid ga
  have GB := Lib.hid gb
  clear ga
  clear gb
  have HB : Hid (Below w.heap.size w w) := Lib.hid (Below.refl _ _)
  go_enter Try.func7, Try.ntmps7
  go_wp2_with fail
  refine (c_szInt64SS ua xa 1048576 _ GA.out (by omega) (by omega)).mono ?_
  rintro e w1 ⟨q1, rfl, q1a, q1b, q1c, rfl⟩
  by_cases q1n : q1 < 0
  case pos =>
    clear q1c
    go_wp2_with fail
    go_ret
    exact ⟨rfl, Below.refl _ _⟩
  have HZxa := Lib.hid (q1c (by omega))
  clear q1c
  go_wp2_with fail
  refine (c_szInt64SS ub xb q1 _ GB.out (by omega) (by omega)).mono ?_
  rintro e w2 ⟨q2, rfl, q2a, q2b, q2c, rfl⟩
  by_cases q2n : q2 < 0
  case pos =>
    clear q2c
    go_wp2_with fail
    go_ret
    exact ⟨rfl, Below.refl _ _⟩
  have HZxb := Lib.hid (q2c (by omega))
  clear q2c
  go_wp2_with fail
  have SM : Small 4096 (mulM xa xb).1 := mulM_small xa xb
  have ST := SM.total
  have SN := totK_nonneg (mulM xa xb).1 (mulM xa xb).1.length
  have TNxa := totK_nonneg xa xa.length
  have TMxa : totK xa xa.length ≤ 1048576 := by have := HZxa.out; omega
  have TNxb := totK_nonneg xb xb.length
  have TMxb : totK xb xb.length ≤ 1048576 := by have := HZxb.out; omega
  refine (c_toInt64SS _ xa _ (GA.out.keep HB.out)).mono ?_
  rintro e w3 ⟨v3, rfl, ho3, hb3⟩
  have O3 := Lib.hid ho3.bound
  clear ho3
  have hs3 := hb3.size
  have HB := Lib.hid (HB.out.trans (hb3.mono HB.out.size))
  clear hb3
  go_wp2_with fail
  refine (c_toInt64SS _ xb _ (GB.out.keep HB.out)).mono ?_
  rintro e w4 ⟨v4, rfl, ho4, hb4⟩
  have O4 := Lib.hid ho4.bound
  clear ho4
  have hs4 := hb4.size
  have HB := Lib.hid (HB.out.trans (hb4.mono HB.out.size))
  have O3 := Lib.hid (O3.out.keep hb4 (by omega))
  clear hb4
  go_wp2_with fail
  refine (c_SMultiplyMatrices _ xa _ xb _ (O3.out.rows GA.out.len (fun xs hx => GA.out.row hx)) (O4.out.rows GB.out.len (fun xs hx => GB.out.row hx))).mono ?_
  rintro e w5 ⟨v5, rfl, ho5, hb5⟩
  have O5 := Lib.hid ho5.bound
  clear ho5
  have hs5 := hb5.size
  have HB := Lib.hid (HB.out.trans (hb5.mono HB.out.size))
  have O3 := Lib.hid (O3.out.keep hb5 (by omega))
  have O4 := Lib.hid (O4.out.keep hb5 (by omega))
  clear hb5
  go_wp2_with fail
  refine (c_toInt64SS _ xa _ (GA.out.keep HB.out)).mono ?_
  rintro e w6 ⟨v6, rfl, ho6, hb6⟩
  have O6 := Lib.hid ho6.bound
  clear ho6
  have hs6 := hb6.size
  have HB := Lib.hid (HB.out.trans (hb6.mono HB.out.size))
  have O5 := Lib.hid (O5.out.keep hb6 (by omega))
  clear hb6
  go_wp2_with fail
  refine (c_toInt64SS _ xb _ (GB.out.keep HB.out)).mono ?_
  rintro e w7 ⟨v7, rfl, ho7, hb7⟩
  have O7 := Lib.hid ho7.bound
  clear ho7
  have hs7 := hb7.size
  have HB := Lib.hid (HB.out.trans (hb7.mono HB.out.size))
  have O5 := Lib.hid (O5.out.keep hb7 (by omega))
  have O6 := Lib.hid (O6.out.keep hb7 (by omega))
  clear hb7
  go_wp2_with fail
  refine (c_MultiplyMatrices _ xa _ xb _ (O6.out.rows GA.out.len (fun xs hx => GA.out.row hx)) (O7.out.rows GB.out.len (fun xs hx => GB.out.row hx))).mono ?_
  rintro e w8 ⟨v8, rfl, ho8, hb8⟩
  have O8 := Lib.hid ho8.bound
  clear ho8
  have hs8 := hb8.size
  have HB := Lib.hid (HB.out.trans (hb8.mono HB.out.size))
  have O5 := Lib.hid (O5.out.keep hb8 (by omega))
  have O6 := Lib.hid (O6.out.keep hb8 (by omega))
  have O7 := Lib.hid (O7.out.keep hb8 (by omega))
  clear hb8
  go_wp2_with fail
  refine (c_eqInt64SS _ _ (mulM xa xb).1 (mulM xa xb).1 _ (O8.out.rows SM.len SM.row) (O5.out.rows SM.len SM.row)).mono ?_
  rintro e w9 ⟨rfl, hb9⟩
  rw [eqLL_self]
  have hs9 := hb9.size
  have HB := Lib.hid (HB.out.trans (hb9.mono HB.out.size))
  have O5 := Lib.hid (O5.out.keep hb9 (by omega))
  have O6 := Lib.hid (O6.out.keep hb9 (by omega))
  have O7 := Lib.hid (O7.out.keep hb9 (by omega))
  have O8 := Lib.hid (O8.out.keep hb9 (by omega))
  clear hb9
  go_wp2_with fail
  refine (c_toInt64SS _ xa _ (GA.out.keep HB.out)).mono ?_
  rintro e w10 ⟨v10, rfl, ho10, hb10⟩
  have O10 := Lib.hid ho10.bound
  clear ho10
  have hs10 := hb10.size
  have HB := Lib.hid (HB.out.trans (hb10.mono HB.out.size))
  have O5 := Lib.hid (O5.out.keep hb10 (by omega))
  have O6 := Lib.hid (O6.out.keep hb10 (by omega))
  have O7 := Lib.hid (O7.out.keep hb10 (by omega))
  have O8 := Lib.hid (O8.out.keep hb10 (by omega))
  clear hb10
  go_wp2_with fail
  refine (c_eqInt64SS _ _ xa xa _ (O6.out.rows GA.out.len (fun xs hx => GA.out.row hx)) (O10.out.rows GA.out.len (fun xs hx => GA.out.row hx))).mono ?_
  rintro e w11 ⟨rfl, hb11⟩
  rw [eqLL_self]
  have hs11 := hb11.size
  have HB := Lib.hid (HB.out.trans (hb11.mono HB.out.size))
  have O5 := Lib.hid (O5.out.keep hb11 (by omega))
  have O6 := Lib.hid (O6.out.keep hb11 (by omega))
  have O7 := Lib.hid (O7.out.keep hb11 (by omega))
  have O8 := Lib.hid (O8.out.keep hb11 (by omega))
  have O10 := Lib.hid (O10.out.keep hb11 (by omega))
  clear hb11
  go_wp2_with fail
  refine (c_toInt64SS _ xb _ (GB.out.keep HB.out)).mono ?_
  rintro e w12 ⟨v12, rfl, ho12, hb12⟩
  have O12 := Lib.hid ho12.bound
  clear ho12
  have hs12 := hb12.size
  have HB := Lib.hid (HB.out.trans (hb12.mono HB.out.size))
  have O5 := Lib.hid (O5.out.keep hb12 (by omega))
  have O6 := Lib.hid (O6.out.keep hb12 (by omega))
  have O7 := Lib.hid (O7.out.keep hb12 (by omega))
  have O8 := Lib.hid (O8.out.keep hb12 (by omega))
  clear hb12
  go_wp2_with fail
  refine (c_eqInt64SS _ _ xb xb _ (O7.out.rows GB.out.len (fun xs hx => GB.out.row hx)) (O12.out.rows GB.out.len (fun xs hx => GB.out.row hx))).mono ?_
  rintro e w13 ⟨rfl, hb13⟩
  rw [eqLL_self]
  have hs13 := hb13.size
  have HB := Lib.hid (HB.out.trans (hb13.mono HB.out.size))
  have O5 := Lib.hid (O5.out.keep hb13 (by omega))
  have O6 := Lib.hid (O6.out.keep hb13 (by omega))
  have O7 := Lib.hid (O7.out.keep hb13 (by omega))
  have O8 := Lib.hid (O8.out.keep hb13 (by omega))
  have O12 := Lib.hid (O12.out.keep hb13 (by omega))
  clear hb13
  go_wp2_with fail
  refine (c_markInt64SS _ _ (1) _ _ _ O6.out (Nat.le_trans GA.out.len (by omega)) (fun xs hx => GA.out.row hx) (by omega) (by omega)).mono ?_
  rintro e w14 ⟨rfl, ho14, ht14⟩
  have O6 := Lib.hid ho14
  clear ho14
  have hs14 := ht14.size
  have HB := Lib.hid (Touch.below HB.out ht14 (fun k hk => by have h1 := hk.1; omega))
  have O5 := Lib.hid (O5.out.touch ht14 (fun k hk => by have h1 := hk.1; have h2 := hk.2; omega))
  have O7 := Lib.hid (O7.out.touch ht14 (fun k hk => by have h1 := hk.1; have h2 := hk.2; omega))
  have O8 := Lib.hid (O8.out.touch ht14 (fun k hk => by have h1 := hk.1; have h2 := hk.2; omega))
  clear ht14
  go_wp2_with fail
  refine (c_markInt64SS _ _ (1 + totK xa (xa).length) _ _ _ O7.out (Nat.le_trans GB.out.len (by omega)) (fun xs hx => GB.out.row hx) (by omega) (by omega)).mono ?_
  rintro e w15 ⟨rfl, ho15, ht15⟩
  have O7 := Lib.hid ho15
  clear ho15
  have hs15 := ht15.size
  have HB := Lib.hid (Touch.below HB.out ht15 (fun k hk => by have h1 := hk.1; omega))
  have O5 := Lib.hid (O5.out.touch ht15 (fun k hk => by have h1 := hk.1; have h2 := hk.2; omega))
  have O8 := Lib.hid (O8.out.touch ht15 (fun k hk => by have h1 := hk.1; have h2 := hk.2; omega))
  clear ht15
  go_wp2_with fail
  refine (c_eqInt64SS _ _ (mulM xa xb).1 (mulM xa xb).1 _ (O8.out.rows SM.len SM.row) (O5.out.rows SM.len SM.row)).mono ?_
  rintro e w16 ⟨rfl, hb16⟩
  rw [eqLL_self]
  have hs16 := hb16.size
  have HB := Lib.hid (HB.out.trans (hb16.mono HB.out.size))
  have O5 := Lib.hid (O5.out.keep hb16 (by omega))
  have O8 := Lib.hid (O8.out.keep hb16 (by omega))
  clear hb16
  go_wp2_with fail
  refine (c_markInt64SS _ _ (1) _ _ _ O8.out (Nat.le_trans SM.len (by omega)) SM.row (by omega) (by omega)).mono ?_
  rintro e w17 ⟨rfl, ho17, ht17⟩
  have O8 := Lib.hid ho17
  clear ho17
  have hs17 := ht17.size
  have HB := Lib.hid (Touch.below HB.out ht17 (fun k hk => by have h1 := hk.1; omega))
  have O5 := Lib.hid (O5.out.touch ht17 (fun k hk => by have h1 := hk.1; have h2 := hk.2; omega))
  clear ht17
  go_wp2_with fail
  refine (c_heldInt64SS _ _ (1) _ (O8.out.rows (marks_len SM.len) (marks_row SM.row)) (by omega) (by omega)).mono ?_
  rintro e w18 ⟨rfl, rfl⟩
  go_wp2_with fail
  refine (c_toInt64SS _ xa _ (GA.out.keep HB.out)).mono ?_
  rintro e w19 ⟨v19, rfl, ho19, hb19⟩
  have O19 := Lib.hid ho19.bound
  clear ho19
  have hs19 := hb19.size
  have HB := Lib.hid (HB.out.trans (hb19.mono HB.out.size))
  have O5 := Lib.hid (O5.out.keep hb19 (by omega))
  have O8 := Lib.hid (O8.out.keep hb19 (by omega))
  clear hb19
  go_wp2_with fail
  refine (c_toInt64SS _ xb _ (GB.out.keep HB.out)).mono ?_
  rintro e w20 ⟨v20, rfl, ho20, hb20⟩
  have O20 := Lib.hid ho20.bound
  clear ho20
  have hs20 := hb20.size
  have HB := Lib.hid (HB.out.trans (hb20.mono HB.out.size))
  have O5 := Lib.hid (O5.out.keep hb20 (by omega))
  have O8 := Lib.hid (O8.out.keep hb20 (by omega))
  have O19 := Lib.hid (O19.out.keep hb20 (by omega))
  clear hb20
  go_wp2_with fail
  refine (c_MultiplyMatrices _ xa _ xb _ (O19.out.rows GA.out.len (fun xs hx => GA.out.row hx)) (O20.out.rows GB.out.len (fun xs hx => GB.out.row hx))).mono ?_
  rintro e w21 ⟨v21, rfl, ho21, hb21⟩
  have O21 := Lib.hid ho21.bound
  clear ho21
  have hs21 := hb21.size
  have HB := Lib.hid (HB.out.trans (hb21.mono HB.out.size))
  have O5 := Lib.hid (O5.out.keep hb21 (by omega))
  have O8 := Lib.hid (O8.out.keep hb21 (by omega))
  have O19 := Lib.hid (O19.out.keep hb21 (by omega))
  have O20 := Lib.hid (O20.out.keep hb21 (by omega))
  clear hb21
  go_wp2_with fail
  refine (c_eqInt64SS _ _ (mulM xa xb).1 (mulM xa xb).1 _ (O21.out.rows SM.len SM.row) (O5.out.rows SM.len SM.row)).mono ?_
  rintro e w22 ⟨rfl, hb22⟩
  rw [eqLL_self]
  have hs22 := hb22.size
  have HB := Lib.hid (HB.out.trans (hb22.mono HB.out.size))
  have O5 := Lib.hid (O5.out.keep hb22 (by omega))
  have O8 := Lib.hid (O8.out.keep hb22 (by omega))
  have O21 := Lib.hid (O21.out.keep hb22 (by omega))
  clear hb22
  go_wp2_with fail
  refine (c_heldInt64SS _ _ (1) _ (O8.out.rows (marks_len SM.len) (marks_row SM.row)) (by omega) (by omega)).mono ?_
  rintro e w23 ⟨rfl, rfl⟩
  go_wp2_with fail
  go_ret
  exact ⟨rfl, HB.out⟩
end Go.Proofs.Ytbllpgbmnapddaa
