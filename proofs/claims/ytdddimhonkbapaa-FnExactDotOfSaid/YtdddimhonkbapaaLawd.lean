/- Walk of the law on sums of products: it returns true. -/
import Derived.Test.YtdddimhonkbapaaDot
namespace Go.Proofs.Ytdddimhonkbapaa
open Go.RowKit
set_option maxHeartbeats 1000000 in
theorem w_FnExactDotOf (u : Value) (xs : List Int) (v : Value) (ys : List Int) (w : World) (hu : Ints w u xs) (hv : Ints w v ys) :
    Calls Try.prog 5 #[u, v] w fun e w' => e = .returned (.bool true) ∧ Below w.heap.size w w' := by
  have HU := Lib.hid hu
  have HV := Lib.hid hv
  obtain ⟨a, cap, rfl, hl, _⟩ := hu
  obtain ⟨a', cap', rfl, hl', _⟩ := hv
  by_cases hx : xs.length ≤ 1048576
  · by_cases hy : ys.length ≤ 1048576
    · go_enter Try.func5, Try.ntmps5
      go_wp2_with fail
      refine (c_toInt64S _ xs _ HU.out).mono ?_
      rintro e w1 ⟨x1, rfl, ho1, hb1⟩
      have B1 := Lib.hid hb1
      have I1 := Lib.hid (ho1.ints hl)
      clear hb1 ho1
      go_wp2_with fail
      refine (c_toInt64S _ ys _ (HV.out.keep B1.out)).mono ?_
      rintro e w2 ⟨x2, rfl, ho2, hb2⟩
      have B2 := Lib.hid (B1.out.trans (hb2.mono B1.out.size))
      have I1 := Lib.hid (I1.out.keep hb2)
      have I2 := Lib.hid (ho2.ints hl')
      clear hb2 ho2
      go_wp2_with fail
      refine (c_SDotOf _ _ xs ys _ I1.out I2.out).mono ?_
      rintro e w3 ⟨rfl, hb3⟩
      unfold two
      have B3 := Lib.hid (B2.out.trans (hb3.mono B2.out.size))
      clear hb3
      go_wp2_with fail
      refine (c_toInt64S _ xs _ (HU.out.keep B3.out)).mono ?_
      rintro e w4 ⟨x4, rfl, ho4, hb4⟩
      have B4 := Lib.hid (B3.out.trans (hb4.mono B3.out.size))
      have I4 := Lib.hid (ho4.ints hl)
      clear hb4 ho4
      go_wp2_with fail
      refine (c_toInt64S _ ys _ (HV.out.keep B4.out)).mono ?_
      rintro e w5 ⟨x5, rfl, ho5, hb5⟩
      have B5 := Lib.hid (B4.out.trans (hb5.mono B4.out.size))
      have I4 := Lib.hid (I4.out.keep hb5)
      have I5 := Lib.hid (ho5.ints hl')
      clear hb5 ho5
      go_wp2_with fail
      refine (c_DotOf _ _ xs ys _ I4.out I5.out).mono ?_
      rintro e w6 ⟨rfl, hb6⟩
      unfold two
      have B6 := Lib.hid (B5.out.trans (hb6.mono B5.out.size))
      have I4 := Lib.hid (I4.out.keep hb6)
      have I5 := Lib.hid (I5.out.keep hb6)
      clear hb6
      go_wp2_with fail
      refine (c_toInt64S _ xs _ (HU.out.keep B6.out)).mono ?_
      rintro e w7 ⟨x7, rfl, ho7, hb7⟩
      have B7 := Lib.hid (B6.out.trans (hb7.mono B6.out.size))
      have I4 := Lib.hid (I4.out.keep hb7)
      have I5 := Lib.hid (I5.out.keep hb7)
      have I7 := Lib.hid (ho7.ints hl)
      clear hb7 ho7
      go_wp2_with fail
      refine (c_eqInt64S _ _ xs xs _ I4.out I7.out).mono ?_
      rintro e w8 ⟨rfl, hb8⟩
      rw [eqL_self]
      have B8 := Lib.hid (B7.out.trans (hb8.mono B7.out.size))
      have I5 := Lib.hid (I5.out.keep hb8)
      clear hb8
      go_wp2_with fail
      refine (c_toInt64S _ ys _ (HV.out.keep B8.out)).mono ?_
      rintro e w9 ⟨x9, rfl, ho9, hb9⟩
      have B9 := Lib.hid (B8.out.trans (hb9.mono B8.out.size))
      have I5 := Lib.hid (I5.out.keep hb9)
      have I9 := Lib.hid (ho9.ints hl')
      clear hb9 ho9
      go_wp2_with fail
      refine (c_eqInt64S _ _ ys ys _ I5.out I9.out).mono ?_
      rintro e w10 ⟨rfl, hb10⟩
      rw [eqL_self]
      go_wp2_with fail
      go_ret
      exact ⟨rfl, B9.out.trans (hb10.mono B9.out.size)⟩
    · go_enter Try.func5, Try.ntmps5
      go_wp2_with fail
      go_ret
      exact ⟨rfl, Below.refl _ _⟩
  · go_enter Try.func5, Try.ntmps5
    go_wp2_with fail
    go_ret
    exact ⟨rfl, Below.refl _ _⟩
end Go.Proofs.Ytdddimhonkbapaa
