/- Walks of laws that hold the program against the reference: each returns true. -/
import Derived.Test.YtjjoicbgnchkdaaChn
namespace Go.Proofs.Ytjjoicbgnchkdaa
open Go.RowKit
set_option maxHeartbeats 2000000 in
theorem w_FnExactEigenvaluesOf (ua : Value) (xa : List (List Int)) (w : World) (ga : IntRows w ua xa) :
    Calls Try.prog 6 #[ua] w fun e w' => e = .returned (.bool true) ∧ Below w.heap.size w w' := by
  have GA := Lib.hid ga
  clear ga
  have HB : Hid (Below w.heap.size w w) := Lib.hid (Below.refl _ _)
  go_enter Try.func6, Try.ntmps6
  go_wp2_with fail
  refine (c_szInt64SS ua xa 1048576 _ GA.out (by omega) (by omega)).mono ?_
  rintro e w1 ⟨q1, rfl, q1a, q1b, q1c, rfl⟩
  by_cases q1n : q1 < 0
  case pos =>
    clear q1c
    go_wp2_with fail
    go_ret
    exact ⟨rfl, Below.refl _ _⟩
  have HZxa := Lib.hid (q1c (by omega))
  clear q1c
  go_wp2_with fail
  have SL : (valsN xa).1.length ≤ 17592186043904 := Nat.le_trans (valsN_small xa) (by omega)
  have TNxa := totK_nonneg xa xa.length
  have TMxa : totK xa xa.length ≤ 1048576 := by have := HZxa.out; omega
  refine (c_toInt64SS _ xa _ (GA.out.keep HB.out)).mono ?_
  rintro e w2 ⟨v2, rfl, ho2, hb2⟩
  have O2 := Lib.hid ho2.bound
  clear ho2
  have hs2 := hb2.size
  have HB := Lib.hid (HB.out.trans (hb2.mono HB.out.size))
  clear hb2
  go_wp2_with fail
  refine (c_SEigenvaluesOf _ xa _ (O2.out.rows GA.out.len (fun xs hx => GA.out.row hx))).mono ?_
  rintro e w3 ⟨v3, rfl, ho3, hb3⟩
  have O3 := Lib.hid ho3.bound
  clear ho3
  have hs3 := hb3.size
  have HB := Lib.hid (HB.out.trans (hb3.mono HB.out.size))
  have O2 := Lib.hid (O2.out.keep hb3 (by omega))
  clear hb3
  go_wp2_with fail
  refine (c_toInt64SS _ xa _ (GA.out.keep HB.out)).mono ?_
  rintro e w4 ⟨v4, rfl, ho4, hb4⟩
  have O4 := Lib.hid ho4.bound
  clear ho4
  have hs4 := hb4.size
  have HB := Lib.hid (HB.out.trans (hb4.mono HB.out.size))
  have O3 := Lib.hid (O3.out.keep hb4 (by omega))
  clear hb4
  go_wp2_with fail
  refine (c_EigenvaluesOf _ xa _ (O4.out.rows GA.out.len (fun xs hx => GA.out.row hx))).mono ?_
  rintro e w5 ⟨v5, rfl, ho5, hb5⟩
  have O5 := Lib.hid ho5.bound
  clear ho5
  have hs5 := hb5.size
  have HB := Lib.hid (HB.out.trans (hb5.mono HB.out.size))
  have O3 := Lib.hid (O3.out.keep hb5 (by omega))
  have O4 := Lib.hid (O4.out.keep hb5 (by omega))
  clear hb5
  go_wp2_with fail
  refine (c_eqInt64S _ _ (valsN xa).1 (valsN xa).1 _ (O5.out.ints SL) (O3.out.ints SL)).mono ?_
  rintro e w6 ⟨rfl, hb6⟩
  rw [eqL_self]
  have hs6 := hb6.size
  have HB := Lib.hid (HB.out.trans (hb6.mono HB.out.size))
  have O3 := Lib.hid (O3.out.keep hb6 (by omega))
  have O4 := Lib.hid (O4.out.keep hb6 (by omega))
  have O5 := Lib.hid (O5.out.keep hb6 (by omega))
  clear hb6
  go_wp2_with fail
  refine (c_toInt64SS _ xa _ (GA.out.keep HB.out)).mono ?_
  rintro e w7 ⟨v7, rfl, ho7, hb7⟩
  have O7 := Lib.hid ho7.bound
  clear ho7
  have hs7 := hb7.size
  have HB := Lib.hid (HB.out.trans (hb7.mono HB.out.size))
  have O3 := Lib.hid (O3.out.keep hb7 (by omega))
  have O4 := Lib.hid (O4.out.keep hb7 (by omega))
  have O5 := Lib.hid (O5.out.keep hb7 (by omega))
  clear hb7
  go_wp2_with fail
  refine (c_eqInt64SS _ _ xa xa _ (O4.out.rows GA.out.len (fun xs hx => GA.out.row hx)) (O7.out.rows GA.out.len (fun xs hx => GA.out.row hx))).mono ?_
  rintro e w8 ⟨rfl, hb8⟩
  rw [eqLL_self]
  have hs8 := hb8.size
  have HB := Lib.hid (HB.out.trans (hb8.mono HB.out.size))
  have O3 := Lib.hid (O3.out.keep hb8 (by omega))
  have O4 := Lib.hid (O4.out.keep hb8 (by omega))
  have O5 := Lib.hid (O5.out.keep hb8 (by omega))
  have O7 := Lib.hid (O7.out.keep hb8 (by omega))
  clear hb8
  go_wp2_with fail
  refine (c_markInt64SS _ _ (1) _ _ _ O4.out (Nat.le_trans GA.out.len (by omega)) (fun xs hx => GA.out.row hx) (by omega) (by omega)).mono ?_
  rintro e w9 ⟨rfl, ho9, ht9⟩
  have O4 := Lib.hid ho9
  clear ho9
  have hs9 := ht9.size
  have HB := Lib.hid (Touch.below HB.out ht9 (fun k hk => by have h1 := hk.1; omega))
  have O3 := Lib.hid (O3.out.touch ht9 (fun k hk => by have h1 := hk.1; have h2 := hk.2; omega))
  have O5 := Lib.hid (O5.out.touch ht9 (fun k hk => by have h1 := hk.1; have h2 := hk.2; omega))
  clear ht9
  go_wp2_with fail
  refine (c_eqInt64S _ _ (valsN xa).1 (valsN xa).1 _ (O5.out.ints SL) (O3.out.ints SL)).mono ?_
  rintro e w10 ⟨rfl, hb10⟩
  rw [eqL_self]
  have hs10 := hb10.size
  have HB := Lib.hid (HB.out.trans (hb10.mono HB.out.size))
  have O3 := Lib.hid (O3.out.keep hb10 (by omega))
  have O5 := Lib.hid (O5.out.keep hb10 (by omega))
  clear hb10
  go_wp2_with fail
  refine (c_markIB _ _ (1) _ _ _ O5.out SL (by omega) (by omega)).mono ?_
  rintro e w11 ⟨rfl, ho11, ht11⟩
  have O5 := Lib.hid ho11
  clear ho11
  have hs11 := ht11.size
  have HB := Lib.hid (Touch.below HB.out ht11 (fun k hk => by have h1 := hk.1; omega))
  have O3 := Lib.hid (O3.out.touch ht11 (fun k hk => by have h1 := hk.1; have h2 := hk.2; omega))
  clear ht11
  go_wp2_with fail
  refine (c_heldInt64S _ _ (1) _ (O5.out.ints (by rw [upFrom_length]; exact SL)) (by omega) (by omega)).mono ?_
  rintro e w12 ⟨rfl, rfl⟩
  go_wp2_with fail
  refine (c_toInt64SS _ xa _ (GA.out.keep HB.out)).mono ?_
  rintro e w13 ⟨v13, rfl, ho13, hb13⟩
  have O13 := Lib.hid ho13.bound
  clear ho13
  have hs13 := hb13.size
  have HB := Lib.hid (HB.out.trans (hb13.mono HB.out.size))
  have O3 := Lib.hid (O3.out.keep hb13 (by omega))
  have O5 := Lib.hid (O5.out.keep hb13 (by omega))
  clear hb13
  go_wp2_with fail
  refine (c_EigenvaluesOf _ xa _ (O13.out.rows GA.out.len (fun xs hx => GA.out.row hx))).mono ?_
  rintro e w14 ⟨v14, rfl, ho14, hb14⟩
  have O14 := Lib.hid ho14.bound
  clear ho14
  have hs14 := hb14.size
  have HB := Lib.hid (HB.out.trans (hb14.mono HB.out.size))
  have O3 := Lib.hid (O3.out.keep hb14 (by omega))
  have O5 := Lib.hid (O5.out.keep hb14 (by omega))
  have O13 := Lib.hid (O13.out.keep hb14 (by omega))
  clear hb14
  go_wp2_with fail
  refine (c_eqInt64S _ _ (valsN xa).1 (valsN xa).1 _ (O14.out.ints SL) (O3.out.ints SL)).mono ?_
  rintro e w15 ⟨rfl, hb15⟩
  rw [eqL_self]
  have hs15 := hb15.size
  have HB := Lib.hid (HB.out.trans (hb15.mono HB.out.size))
  have O3 := Lib.hid (O3.out.keep hb15 (by omega))
  have O5 := Lib.hid (O5.out.keep hb15 (by omega))
  have O14 := Lib.hid (O14.out.keep hb15 (by omega))
  clear hb15
  go_wp2_with fail
  refine (c_heldInt64S _ _ (1) _ (O5.out.ints (by rw [upFrom_length]; exact SL)) (by omega) (by omega)).mono ?_
  rintro e w16 ⟨rfl, rfl⟩
  go_wp2_with fail
  go_ret
  exact ⟨rfl, HB.out⟩
end Go.Proofs.Ytjjoicbgnchkdaa
