/- Walk of the law on numbers. -/
import Derived.Test.YtdddimhonkbapaaDrx
import Derived.Test.YtdddimhonkbapaaDry
namespace Go.Proofs.Ytdddimhonkbapaa
open Go.RowKit
theorem c_l01Two (q : Value) (bs : List Int) (w : World) (hq : Bytes w q bs) (hl : bs.length ≤ 4096) :
    Calls Try.prog 50 #[q] w fun e w' => ∃ a b : Int, e = .returned (.tuple #[.int .i64 a, .int .i64 b]) ∧ Below w.heap.size w w' := by
  have HQ := Lib.hid hq
  clear hq
  go_enter Try.func50, Try.ntmps50
  go_wp2_with fail
  refine (c_l01From q bs _ HQ.out hl).mono ?_
  rintro e w1 ⟨v, rfl, hs1, hb1⟩
  have HS1 := Lib.hid hs1
  have HB1 := Lib.hid hb1
  clear hs1 hb1
  go_wp2_with fail
  refine (c_l01Spoil v _ _ _ HS1.out).mono ?_
  rintro e w2 ⟨x, rfl, hs2, hb2⟩
  have HS2 := Lib.hid hs2
  have HB2 := Lib.hid (HB1.out.trans hb2)
  clear hs2 hb2
  go_wp2_with fail
  refine (c_l01Spoil v _ _ _ HS2.out).mono ?_
  rintro e w3 ⟨y, rfl, hs3, hb3⟩
  have HB3 := Lib.hid (HB2.out.trans hb3)
  clear hs3 hb3
  go_wp2_with fail
  go_ret2
  exact ⟨_, _, rfl, HB3.out⟩
theorem c_DrawDivideNumbers (q : Value) (bs : List Int) (w : World) (hq : Bytes w q bs) (hl : bs.length ≤ 4096) :
    Calls Try.prog 17 #[q] w fun e w' => ∃ a b : Int, e = .returned (.tuple #[.int .i64 a, .int .i64 b]) ∧ Below w.heap.size w w' := by
  go_enter Try.func17, Try.ntmps17
  go_wp2_with fail
  refine (c_l01Two q bs _ hq hl).mono ?_
  rintro e w1 ⟨a, b, rfl, hb1⟩
  go_wp2_with fail
  go_ret2
  exact ⟨_, _, rfl, hb1⟩
theorem c_DrawFractionNumber (q : Value) (bs : List Int) (w : World) (hq : Bytes w q bs) (hl : bs.length ≤ 4096) :
    Calls Try.prog 22 #[q] w fun e w' => ∃ a b : Int, e = .returned (.tuple #[.int .i64 a, .int .i64 b]) ∧ Below w.heap.size w w' := by
  have HQ := Lib.hid hq
  clear hq
  go_enter Try.func22, Try.ntmps22
  go_wp2_with fail
  refine (c_l01From q bs _ HQ.out hl).mono ?_
  rintro e w1 ⟨v, rfl, hs, hb⟩
  have HS := Lib.hid hs
  have HB := Lib.hid hb
  clear hs hb
  go_wp2_with fail
  refine (c_next v 41 _ _ _ HS.out (by omega) (by omega)).mono ?_
  rintro e w2 ⟨x1, rfl, hx1, hx1', hs, hb⟩
  have HS := Lib.hid hs
  have HB := Lib.hid (HB.out.trans hb)
  clear hs hb
  go_wp2_with fail
  refine (c_next v 400 _ _ _ HS.out (by omega) (by omega)).mono ?_
  rintro e w3 ⟨x2, rfl, hx2, hx2', hs, hb⟩
  have HS := Lib.hid hs
  have HB := Lib.hid (HB.out.trans hb)
  clear hs hb
  go_wp2_with fail
  refine (c_next v 100000 _ _ _ HS.out (by omega) (by omega)).mono ?_
  rintro e w4 ⟨x3, rfl, hx3, hx3', hs, hb⟩
  have HS := Lib.hid hs
  have HB := Lib.hid (HB.out.trans hb)
  clear hs hb
  go_wp2_with fail
  refine (c_pick v _ [x1 - 20, x2 - 200, 1000000000, -1000000001, x3] _ _ _ HS.out (by simp) (by simp)).mono ?_
  rintro e w5 ⟨p, rfl, _, hs, hb⟩
  have HS := Lib.hid hs
  have HB := Lib.hid (HB.out.trans hb)
  clear hs hb
  go_wp2_with fail
  refine (c_next v 20 _ _ _ HS.out (by omega) (by omega)).mono ?_
  rintro e w6 ⟨x4, rfl, hx4, hx4', hs, hb⟩
  have HS := Lib.hid hs
  have HB := Lib.hid (HB.out.trans hb)
  clear hs hb
  go_wp2_with fail
  refine (c_next v 200 _ _ _ HS.out (by omega) (by omega)).mono ?_
  rintro e w7 ⟨x5, rfl, hx5, hx5', hs, hb⟩
  have HS := Lib.hid hs
  have HB := Lib.hid (HB.out.trans hb)
  clear hs hb
  go_wp2_with fail
  refine (c_pick v _ [1 + x4, 1 + x5, 55441, -110882, 0, 1000000000, -3] _ _ _ HS.out (by simp) (by simp)).mono ?_
  rintro e w8 ⟨p2, rfl, _, hs, hb⟩
  have HB := Lib.hid (HB.out.trans hb)
  clear hs hb
  go_wp2_with fail
  go_ret2
  exact ⟨_, _, rfl, HB.out⟩
theorem c_mod5 (a : Int) (w : World) :
    Calls Try.prog 25 #[.int .i64 a] w fun e w' => e = .returned (.int .i64 (a % 55441)) ∧ w = w' := by
  have hb := tmod_bd a
  go_enter Try.func25, Try.ntmps25
  go_wp2
  go_ret
  exact ⟨ret_int (tmod_mod a), rfl⟩
end Go.Proofs.Ytdddimhonkbapaa
