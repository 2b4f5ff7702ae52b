/- Walks of laws that hold the program against the reference: each returns true. -/
import Derived.Test.YtoaphakhfedgeaaMrk
import Derived.Test.YtoaphakhfedgeaaCnt
namespace Go.Proofs.Ytoaphakhfedgeaa
open Go.RowKit
set_option maxHeartbeats 2000000 in
theorem w_FnExactCountMetrics (ua : Value) (xa : List Int) (xb : Int) (w : World) (ga : Ints w ua xa) :
    Calls Try.prog 11 #[ua, .int .i64 xb] w fun e w' => e = .returned (.bool true) ∧ Below w.heap.size w w' := by
  have GA := Lib.hid ga
  obtain ⟨ppxa, cpxa, rfl, llxa, _⟩ := ga
  have HB : Hid (Below w.heap.size w w) := Lib.hid (Below.refl _ _)
  by_cases lsxa : xa.length ≤ 1048576
  case neg =>
    go_enter Try.func11, Try.ntmps11
    go_wp2_with fail
    go_ret
    exact ⟨rfl, Below.refl _ _⟩
  go_enter Try.func11, Try.ntmps11
  go_wp2_with fail
  refine (c_toInt64S _ xa _ (GA.out.keep HB.out)).mono ?_
  rintro e w1 ⟨v1, rfl, ho1, hb1⟩
  have O1 := Lib.hid ho1.bound
  clear ho1
  have hs1 := hb1.size
  have HB := Lib.hid (HB.out.trans (hb1.mono HB.out.size))
  clear hb1
  go_wp2_with fail
  refine (c_SCountMetrics _ xa xb _ (O1.out.ints llxa)).mono ?_
  rintro e w2 ⟨rfl, hb2⟩
  unfold two
  have hs2 := hb2.size
  have HB := Lib.hid (HB.out.trans (hb2.mono HB.out.size))
  have O1 := Lib.hid (O1.out.keep hb2 (by omega))
  clear hb2
  go_wp2_with fail
  refine (c_toInt64S _ xa _ (GA.out.keep HB.out)).mono ?_
  rintro e w3 ⟨v3, rfl, ho3, hb3⟩
  have O3 := Lib.hid ho3.bound
  clear ho3
  have hs3 := hb3.size
  have HB := Lib.hid (HB.out.trans (hb3.mono HB.out.size))
  clear hb3
  go_wp2_with fail
  refine (c_CountMetrics _ xa xb _ (O3.out.ints llxa) O3.out.1.caps).mono ?_
  rintro e w4 ⟨rfl, hb4⟩
  unfold two
  have hs4 := hb4.size
  have HB := Lib.hid (HB.out.trans (hb4.mono HB.out.size))
  have O3 := Lib.hid (O3.out.keep hb4 (by omega))
  clear hb4
  go_wp2_with fail
  refine (c_toInt64S _ xa _ (GA.out.keep HB.out)).mono ?_
  rintro e w5 ⟨v5, rfl, ho5, hb5⟩
  have O5 := Lib.hid ho5.bound
  clear ho5
  have hs5 := hb5.size
  have HB := Lib.hid (HB.out.trans (hb5.mono HB.out.size))
  have O3 := Lib.hid (O3.out.keep hb5 (by omega))
  clear hb5
  go_wp2_with fail
  refine (c_eqInt64S _ _ xa xa _ (O3.out.ints llxa) (O5.out.ints llxa)).mono ?_
  rintro e w6 ⟨rfl, hb6⟩
  rw [eqL_self]
  have hs6 := hb6.size
  have HB := Lib.hid (HB.out.trans (hb6.mono HB.out.size))
  have O3 := Lib.hid (O3.out.keep hb6 (by omega))
  have O5 := Lib.hid (O5.out.keep hb6 (by omega))
  clear hb6
  go_wp2_with fail
  go_ret
  exact ⟨rfl, HB.out⟩
end Go.Proofs.Ytoaphakhfedgeaa
