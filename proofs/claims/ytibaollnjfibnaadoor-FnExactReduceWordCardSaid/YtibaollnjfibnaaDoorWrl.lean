/- Words: the walks of two laws. -/
import Derived.Test.YtibaollnjfibnaaDoorWrp
namespace Go.Proofs.YtibaollnjfibnaaDoor
open Go.RowKit Wrd
set_option maxHeartbeats 2000000 in
theorem w_FnExactIsWord (s : ByteArray) (w : World) (hs : s.size ≤ maxLen) :
    Calls Tryd.prog 3 #[.string s] w fun e w' => e = .returned (.bool true) ∧ Below w.heap.size w w' := by
  have HS := Lib.hid hs
  have hs' : s.size ≤ 9223372036854775807 := by unfold maxLen at hs; omega
  clear hs
  by_cases h : s.size ≤ 1048576
  · go_enter Tryd.func3, Tryd.ntmps3
    go_wp2_with fail
    refine (c_SIsWord s _ HS.out).mono ?_
    rintro e w1 ⟨rfl, rfl⟩
    go_wp2_with fail
    refine (c_IsWord s _ HS.out).mono ?_
    rintro e w1 ⟨rfl, hb⟩
    generalize wordB s = b
    cases b
    all_goals
      go_wp2_with fail
      go_ret
      exact ⟨rfl, hb⟩
  · go_enter Tryd.func3, Tryd.ntmps3
    go_wp2_with fail
    go_ret
    exact ⟨rfl, Below.refl _ _⟩
set_option maxHeartbeats 2000000 in
theorem w_FnExactReduceWord (s : ByteArray) (w : World) (hs : s.size ≤ maxLen) :
    Calls Tryd.prog 4 #[.string s] w fun e w' => e = .returned (.bool true) ∧ Below w.heap.size w w' := by
  have HS := Lib.hid hs
  have hs' : s.size ≤ 9223372036854775807 := by unfold maxLen at hs; omega
  clear hs
  by_cases h : s.size ≤ 1048576
  · go_enter Tryd.func4, Tryd.ntmps4
    go_wp2_with fail
    refine (c_SReduceWord s _ HS.out).mono ?_
    rintro e w1 ⟨rfl, hb1⟩
    unfold twoT
    go_wp2_with fail
    refine (c_ReduceWord s _ HS.out).mono ?_
    rintro e w2 ⟨rfl, hb2⟩
    unfold twoT
    go_wp2_with fail
    go_ret
    exact ⟨rfl, hb1.trans (hb2.mono hb1.size)⟩
  · go_enter Tryd.func4, Tryd.ntmps4
    go_wp2_with fail
    go_ret
    exact ⟨rfl, Below.refl _ _⟩
end Go.Proofs.YtibaollnjfibnaaDoor
