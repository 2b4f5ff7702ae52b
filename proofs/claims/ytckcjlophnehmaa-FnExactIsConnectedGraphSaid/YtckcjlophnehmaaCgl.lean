/- Connected graphs: the walk of the law. -/
import Derived.Test.YtckcjlophnehmaaCgp
namespace Go.Proofs.Ytckcjlophnehmaa
open Go.RowKit
set_option maxHeartbeats 2000000 in
theorem w_FnExactIsConnectedGraph (ua : Value) (xa : List (List Int)) (w : World) (ga : IntRowsW w ua xa) :
    Calls Try.prog 4 #[ua] w fun e w' => e = .returned (.bool true) ∧ Below w.heap.size w w' := by
  have GA := Lib.hid ga.1
  have HWF := Lib.hid ga.2
  clear ga
  have HB : Hid (Below w.heap.size w w) := Lib.hid (Below.refl _ _)
  go_enter Try.func4, Try.ntmps4
  go_wp2_with fail
  refine (c_szInt64SS ua xa 1048576 _ GA.out (by omega) (by omega)).mono ?_
  rintro e w1 ⟨q1, rfl, q1a, q1b, q1c, rfl⟩
  by_cases q1n : q1 < 0
  case pos =>
    clear q1c
    go_wp2_with fail
    go_ret
    exact ⟨rfl, Below.refl _ _⟩
  have HZxa := Lib.hid (q1c (by omega))
  clear q1c
  go_wp2_with fail
  refine (c_toInt64SS _ xa _ (GA.out.keep HB.out)).mono ?_
  rintro e w2 ⟨v2, rfl, ho2, hb2⟩
  have O2 := Lib.hid ho2.bound
  clear ho2
  have hs2 := hb2.size
  have HB := Lib.hid (HB.out.trans (hb2.mono HB.out.size))
  clear hb2
  go_wp2_with fail
  refine (c_SIsConnectedGraph _ xa _ (O2.out.rows GA.out.len (fun xs hx => GA.out.row hx))).mono ?_
  rintro e w3 ⟨rfl, hb3⟩
  unfold twoG
  have hs3 := hb3.size
  have HB := Lib.hid (HB.out.trans (hb3.mono HB.out.size))
  have O2 := Lib.hid (O2.out.keep hb3 (by omega))
  clear hb3
  go_wp2_with fail
  refine (c_toInt64SS _ xa _ (GA.out.keep HB.out)).mono ?_
  rintro e w4 ⟨v4, rfl, ho4, hb4⟩
  have O4 := Lib.hid ho4.bound
  clear ho4
  have hs4 := hb4.size
  have HB := Lib.hid (HB.out.trans (hb4.mono HB.out.size))
  clear hb4
  go_wp2_with fail
  refine (c_IsConnectedGraph _ xa _ ⟨(O4.out.rows GA.out.len (fun xs hx => GA.out.row hx)), HWF.out⟩).mono ?_
  rintro e w5 ⟨rfl, hb5⟩
  unfold twoG
  have hs5 := hb5.size
  have HB := Lib.hid (HB.out.trans (hb5.mono HB.out.size))
  have O4 := Lib.hid (O4.out.keep hb5 (by omega))
  clear hb5
  go_wp2_with fail
  refine (c_toInt64SS _ xa _ (GA.out.keep HB.out)).mono ?_
  rintro e w6 ⟨v6, rfl, ho6, hb6⟩
  have O6 := Lib.hid ho6.bound
  clear ho6
  have hs6 := hb6.size
  have HB := Lib.hid (HB.out.trans (hb6.mono HB.out.size))
  have O4 := Lib.hid (O4.out.keep hb6 (by omega))
  clear hb6
  go_wp2_with fail
  refine (c_eqInt64SS _ _ xa xa _ (O4.out.rows GA.out.len (fun xs hx => GA.out.row hx)) (O6.out.rows GA.out.len (fun xs hx => GA.out.row hx))).mono ?_
  rintro e w7 ⟨rfl, hb7⟩
  rw [eqLL_self]
  have hs7 := hb7.size
  have HB := Lib.hid (HB.out.trans (hb7.mono HB.out.size))
  have O4 := Lib.hid (O4.out.keep hb7 (by omega))
  have O6 := Lib.hid (O6.out.keep hb7 (by omega))
  clear hb7
  go_wp2_with fail
  go_ret
  exact ⟨rfl, HB.out⟩
end Go.Proofs.Ytckcjlophnehmaa
