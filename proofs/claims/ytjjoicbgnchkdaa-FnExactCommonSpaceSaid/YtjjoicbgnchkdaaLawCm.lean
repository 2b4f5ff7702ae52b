/- Walks of laws that hold the program against the reference: each returns true. -/
import Derived.Test.YtjjoicbgnchkdaaCms
namespace Go.Proofs.Ytjjoicbgnchkdaa
open Go.RowKit
set_option maxHeartbeats 2000000 in
theorem w_FnExactCommonSpace (ua : Value) (xa : List (List (List Int))) (ub : Value) (xb : List Int) (w : World) (ga : IntCubes w ua xa) (gb : Ints w ub xb) :
    Calls Try.prog 8 #[ua, ub] w fun e w' => e = .returned (.bool true) ∧ Below w.heap.size w w' := by
  have GA := Lib.hid ga
  have GB := Lib.hid gb
  clear ga
  obtain ⟨ppxb, cpxb, rfl, llxb, _⟩ := gb
  have HB : Hid (Below w.heap.size w w) := Lib.hid (Below.refl _ _)
  by_cases lsxb : xb.length ≤ 1048576
  case neg =>
    go_enter Try.func8, Try.ntmps8
    go_wp2_with fail
    go_ret
    exact ⟨rfl, Below.refl _ _⟩
  go_enter Try.func8, Try.ntmps8
  go_wp2_with fail
  refine (c_szInt64SSS ua xa 1048576 _ GA.out (by omega) (by omega)).mono ?_
  rintro e w1 ⟨q1, rfl, q1a, q1b, q1c, rfl⟩
  by_cases q1n : q1 < 0
  case pos =>
    clear q1c
    go_wp2_with fail
    go_ret
    exact ⟨rfl, Below.refl _ _⟩
  have HZxa := Lib.hid (q1c (by omega))
  clear q1c
  go_wp2_with fail
  have SM : Small 4096 (comN xa xb).1 := comN_small xa xb
  have ST := SM.total
  have SN := totK_nonneg (comN xa xb).1 (comN xa xb).1.length
  have TNxa := totC_nonneg cntM_nonneg xa xa.length
  have TMxa : cntC xa ≤ 1048576 := by have := HZxa.out; have := totC_szM xa; omega
  have TQxa : 0 ≤ cntC xa := TNxa
  refine (c_toInt64SSS _ xa _ (GA.out.keep HB.out)).mono ?_
  rintro e w2 ⟨v2, rfl, ho2, hb2⟩
  have O2 := Lib.hid ho2.bound
  clear ho2
  have hs2 := hb2.size
  have HB := Lib.hid (HB.out.trans (hb2.mono HB.out.size))
  clear hb2
  go_wp2_with fail
  refine (c_toInt64S _ xb _ (GB.out.keep HB.out)).mono ?_
  rintro e w3 ⟨v3, rfl, ho3, hb3⟩
  have O3 := Lib.hid ho3.bound
  clear ho3
  have hs3 := hb3.size
  have HB := Lib.hid (HB.out.trans (hb3.mono HB.out.size))
  have O2 := Lib.hid (O2.out.keep hb3 (by omega))
  clear hb3
  go_wp2_with fail
  refine (c_SCommonSpace _ xa _ xb _ (O2.out.cubes GA.out.len (fun xs hx => GA.out.row hx)) (O3.out.ints llxb)).mono ?_
  rintro e w4 ⟨v4, rfl, ho4, hb4⟩
  have O4 := Lib.hid ho4.bound
  clear ho4
  have hs4 := hb4.size
  have HB := Lib.hid (HB.out.trans (hb4.mono HB.out.size))
  have O2 := Lib.hid (O2.out.keep hb4 (by omega))
  have O3 := Lib.hid (O3.out.keep hb4 (by omega))
  clear hb4
  go_wp2_with fail
  refine (c_toInt64SSS _ xa _ (GA.out.keep HB.out)).mono ?_
  rintro e w5 ⟨v5, rfl, ho5, hb5⟩
  have O5 := Lib.hid ho5.bound
  clear ho5
  have hs5 := hb5.size
  have HB := Lib.hid (HB.out.trans (hb5.mono HB.out.size))
  have O4 := Lib.hid (O4.out.keep hb5 (by omega))
  clear hb5
  go_wp2_with fail
  refine (c_toInt64S _ xb _ (GB.out.keep HB.out)).mono ?_
  rintro e w6 ⟨v6, rfl, ho6, hb6⟩
  have O6 := Lib.hid ho6.bound
  clear ho6
  have hs6 := hb6.size
  have HB := Lib.hid (HB.out.trans (hb6.mono HB.out.size))
  have O4 := Lib.hid (O4.out.keep hb6 (by omega))
  have O5 := Lib.hid (O5.out.keep hb6 (by omega))
  clear hb6
  go_wp2_with fail
  refine (c_CommonSpace _ xa _ xb _ (O5.out.cubes GA.out.len (fun xs hx => GA.out.row hx)) (O6.out.ints llxb)).mono ?_
  rintro e w7 ⟨v7, rfl, ho7, hb7⟩
  have O7 := Lib.hid ho7.bound
  clear ho7
  have hs7 := hb7.size
  have HB := Lib.hid (HB.out.trans (hb7.mono HB.out.size))
  have O4 := Lib.hid (O4.out.keep hb7 (by omega))
  have O5 := Lib.hid (O5.out.keep hb7 (by omega))
  have O6 := Lib.hid (O6.out.keep hb7 (by omega))
  clear hb7
  go_wp2_with fail
  refine (c_eqInt64SS _ _ (comN xa xb).1 (comN xa xb).1 _ (O7.out.rows SM.len SM.row) (O4.out.rows SM.len SM.row)).mono ?_
  rintro e w8 ⟨rfl, hb8⟩
  rw [eqLL_self]
  have hs8 := hb8.size
  have HB := Lib.hid (HB.out.trans (hb8.mono HB.out.size))
  have O4 := Lib.hid (O4.out.keep hb8 (by omega))
  have O5 := Lib.hid (O5.out.keep hb8 (by omega))
  have O6 := Lib.hid (O6.out.keep hb8 (by omega))
  have O7 := Lib.hid (O7.out.keep hb8 (by omega))
  clear hb8
  go_wp2_with fail
  refine (c_toInt64SSS _ xa _ (GA.out.keep HB.out)).mono ?_
  rintro e w9 ⟨v9, rfl, ho9, hb9⟩
  have O9 := Lib.hid ho9.bound
  clear ho9
  have hs9 := hb9.size
  have HB := Lib.hid (HB.out.trans (hb9.mono HB.out.size))
  have O4 := Lib.hid (O4.out.keep hb9 (by omega))
  have O5 := Lib.hid (O5.out.keep hb9 (by omega))
  have O6 := Lib.hid (O6.out.keep hb9 (by omega))
  have O7 := Lib.hid (O7.out.keep hb9 (by omega))
  clear hb9
  go_wp2_with fail
  refine (c_eqInt64SSS _ _ xa xa _ (O5.out.cubes GA.out.len (fun xs hx => GA.out.row hx)) (O9.out.cubes GA.out.len (fun xs hx => GA.out.row hx))).mono ?_
  rintro e w10 ⟨rfl, hb10⟩
  rw [eqLLL_self]
  have hs10 := hb10.size
  have HB := Lib.hid (HB.out.trans (hb10.mono HB.out.size))
  have O4 := Lib.hid (O4.out.keep hb10 (by omega))
  have O5 := Lib.hid (O5.out.keep hb10 (by omega))
  have O6 := Lib.hid (O6.out.keep hb10 (by omega))
  have O7 := Lib.hid (O7.out.keep hb10 (by omega))
  have O9 := Lib.hid (O9.out.keep hb10 (by omega))
  clear hb10
  go_wp2_with fail
  refine (c_toInt64S _ xb _ (GB.out.keep HB.out)).mono ?_
  rintro e w11 ⟨v11, rfl, ho11, hb11⟩
  have O11 := Lib.hid ho11.bound
  clear ho11
  have hs11 := hb11.size
  have HB := Lib.hid (HB.out.trans (hb11.mono HB.out.size))
  have O4 := Lib.hid (O4.out.keep hb11 (by omega))
  have O5 := Lib.hid (O5.out.keep hb11 (by omega))
  have O6 := Lib.hid (O6.out.keep hb11 (by omega))
  have O7 := Lib.hid (O7.out.keep hb11 (by omega))
  clear hb11
  go_wp2_with fail
  refine (c_eqInt64S _ _ xb xb _ (O6.out.ints llxb) (O11.out.ints llxb)).mono ?_
  rintro e w12 ⟨rfl, hb12⟩
  rw [eqL_self]
  have hs12 := hb12.size
  have HB := Lib.hid (HB.out.trans (hb12.mono HB.out.size))
  have O4 := Lib.hid (O4.out.keep hb12 (by omega))
  have O5 := Lib.hid (O5.out.keep hb12 (by omega))
  have O6 := Lib.hid (O6.out.keep hb12 (by omega))
  have O7 := Lib.hid (O7.out.keep hb12 (by omega))
  have O11 := Lib.hid (O11.out.keep hb12 (by omega))
  clear hb12
  go_wp2_with fail
  refine (c_markInt64SSS _ _ (1) _ _ _ O5.out GA.out.len (fun xs hx => GA.out.row hx) (by omega) (by omega)).mono ?_
  rintro e w13 ⟨rfl, ho13, ht13⟩
  have O5 := Lib.hid ho13
  clear ho13
  have hs13 := ht13.size
  have HB := Lib.hid (Touch.below HB.out ht13 (fun k hk => by have h1 := hk.1; omega))
  have O4 := Lib.hid (O4.out.touch ht13 (fun k hk => by have h1 := hk.1; have h2 := hk.2; omega))
  have O6 := Lib.hid (O6.out.touch ht13 (fun k hk => by have h1 := hk.1; have h2 := hk.2; omega))
  have O7 := Lib.hid (O7.out.touch ht13 (fun k hk => by have h1 := hk.1; have h2 := hk.2; omega))
  clear ht13
  go_wp2_with fail
  refine (c_markIB _ _ (1 + cntC xa) _ _ _ O6.out llxb (by omega) (by omega)).mono ?_
  rintro e w14 ⟨rfl, ho14, ht14⟩
  have O6 := Lib.hid ho14
  clear ho14
  have hs14 := ht14.size
  have HB := Lib.hid (Touch.below HB.out ht14 (fun k hk => by have h1 := hk.1; omega))
  have O4 := Lib.hid (O4.out.touch ht14 (fun k hk => by have h1 := hk.1; have h2 := hk.2; omega))
  have O7 := Lib.hid (O7.out.touch ht14 (fun k hk => by have h1 := hk.1; have h2 := hk.2; omega))
  clear ht14
  go_wp2_with fail
  refine (c_eqInt64SS _ _ (comN xa xb).1 (comN xa xb).1 _ (O7.out.rows SM.len SM.row) (O4.out.rows SM.len SM.row)).mono ?_
  rintro e w15 ⟨rfl, hb15⟩
  rw [eqLL_self]
  have hs15 := hb15.size
  have HB := Lib.hid (HB.out.trans (hb15.mono HB.out.size))
  have O4 := Lib.hid (O4.out.keep hb15 (by omega))
  have O7 := Lib.hid (O7.out.keep hb15 (by omega))
  clear hb15
  go_wp2_with fail
  refine (c_markInt64SS _ _ (1) _ _ _ O7.out (Nat.le_trans SM.len (by omega)) SM.row (by omega) (by omega)).mono ?_
  rintro e w16 ⟨rfl, ho16, ht16⟩
  have O7 := Lib.hid ho16
  clear ho16
  have hs16 := ht16.size
  have HB := Lib.hid (Touch.below HB.out ht16 (fun k hk => by have h1 := hk.1; omega))
  have O4 := Lib.hid (O4.out.touch ht16 (fun k hk => by have h1 := hk.1; have h2 := hk.2; omega))
  clear ht16
  go_wp2_with fail
  refine (c_heldInt64SS _ _ (1) _ (O7.out.rows (marks_len SM.len) (marks_row SM.row)) (by omega) (by omega)).mono ?_
  rintro e w17 ⟨rfl, rfl⟩
  go_wp2_with fail
  refine (c_toInt64SSS _ xa _ (GA.out.keep HB.out)).mono ?_
  rintro e w18 ⟨v18, rfl, ho18, hb18⟩
  have O18 := Lib.hid ho18.bound
  clear ho18
  have hs18 := hb18.size
  have HB := Lib.hid (HB.out.trans (hb18.mono HB.out.size))
  have O4 := Lib.hid (O4.out.keep hb18 (by omega))
  have O7 := Lib.hid (O7.out.keep hb18 (by omega))
  clear hb18
  go_wp2_with fail
  refine (c_toInt64S _ xb _ (GB.out.keep HB.out)).mono ?_
  rintro e w19 ⟨v19, rfl, ho19, hb19⟩
  have O19 := Lib.hid ho19.bound
  clear ho19
  have hs19 := hb19.size
  have HB := Lib.hid (HB.out.trans (hb19.mono HB.out.size))
  have O4 := Lib.hid (O4.out.keep hb19 (by omega))
  have O7 := Lib.hid (O7.out.keep hb19 (by omega))
  have O18 := Lib.hid (O18.out.keep hb19 (by omega))
  clear hb19
  go_wp2_with fail
  refine (c_CommonSpace _ xa _ xb _ (O18.out.cubes GA.out.len (fun xs hx => GA.out.row hx)) (O19.out.ints llxb)).mono ?_
  rintro e w20 ⟨v20, rfl, ho20, hb20⟩
  have O20 := Lib.hid ho20.bound
  clear ho20
  have hs20 := hb20.size
  have HB := Lib.hid (HB.out.trans (hb20.mono HB.out.size))
  have O4 := Lib.hid (O4.out.keep hb20 (by omega))
  have O7 := Lib.hid (O7.out.keep hb20 (by omega))
  have O18 := Lib.hid (O18.out.keep hb20 (by omega))
  have O19 := Lib.hid (O19.out.keep hb20 (by omega))
  clear hb20
  go_wp2_with fail
  refine (c_eqInt64SS _ _ (comN xa xb).1 (comN xa xb).1 _ (O20.out.rows SM.len SM.row) (O4.out.rows SM.len SM.row)).mono ?_
  rintro e w21 ⟨rfl, hb21⟩
  rw [eqLL_self]
  have hs21 := hb21.size
  have HB := Lib.hid (HB.out.trans (hb21.mono HB.out.size))
  have O4 := Lib.hid (O4.out.keep hb21 (by omega))
  have O7 := Lib.hid (O7.out.keep hb21 (by omega))
  have O20 := Lib.hid (O20.out.keep hb21 (by omega))
  clear hb21
  go_wp2_with fail
  refine (c_heldInt64SS _ _ (1) _ (O7.out.rows (marks_len SM.len) (marks_row SM.row)) (by omega) (by omega)).mono ?_
  rintro e w22 ⟨rfl, rfl⟩
  go_wp2_with fail
  go_ret
  exact ⟨rfl, HB.out⟩
end Go.Proofs.Ytjjoicbgnchkdaa
