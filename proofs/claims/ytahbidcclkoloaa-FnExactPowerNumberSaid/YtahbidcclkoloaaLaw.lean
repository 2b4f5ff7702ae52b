/- Walks of the laws over integers: each returns true. -/
import Derived.Test.YtahbidcclkoloaaFlb
namespace Go.Proofs.Ytahbidcclkoloaa
open Go.RowKit

theorem w_FnExactConstants (w : World) : Calls Try.prog 3 #[] w fun e w' => e = .returned (.bool true) ∧ Below w.heap.size w w' := by
  go_enter Try.func3, Try.ntmps3
  go_wp2
  go_ret
  exact ⟨rfl, Below.refl _ _⟩
theorem w_FnExactIsNumber (a : Int) (w : World) : Calls Try.prog 4 #[.int .i64 a] w fun e w' => e = .returned (.bool true) ∧ Below w.heap.size w w' := by
  go_enter Try.func4, Try.ntmps4
  go_wp2_with (first | (go_at_call 15; refine (c_SIsNumber _ _).mono ?_; rintro e w' ⟨rfl, rfl⟩) | (go_at_call 16; refine (c_IsNumber _ _).mono ?_; rintro e w' ⟨rfl, rfl⟩))
  go_ret
  exact ⟨rfl, Below.refl _ _⟩
theorem w_FnExactMultiplyNumbers (a b : Int) (w : World) : Calls Try.prog 6 #[.int .i64 a, .int .i64 b] w fun e w' => e = .returned (.bool true) ∧ Below w.heap.size w w' := by
  go_enter Try.func6, Try.ntmps6
  go_wp2_with (first | (go_at_call 19; refine (c_SMultiplyNumbers _ _ _).mono ?_; rintro e w' ⟨rfl, rfl⟩; unfold two) | (go_at_call 20; refine (c_MultiplyNumbers _ _ _).mono ?_; rintro e w' ⟨rfl, hb⟩; unfold two))
  go_ret
  exact ⟨rfl, hb⟩
theorem w_FnExactAddNumbers (a b : Int) (w : World) : Calls Try.prog 7 #[.int .i64 a, .int .i64 b] w fun e w' => e = .returned (.bool true) ∧ Below w.heap.size w w' := by
  go_enter Try.func7, Try.ntmps7
  go_wp2_with (first | (go_at_call 21; refine (c_SAddNumbers _ _ _).mono ?_; rintro e w' ⟨rfl, rfl⟩; unfold two) | (go_at_call 22; refine (c_AddNumbers _ _ _).mono ?_; rintro e w' ⟨rfl, hb⟩; unfold two))
  go_ret
  exact ⟨rfl, hb⟩
theorem w_FnExactSubtractNumbers (a b : Int) (w : World) : Calls Try.prog 8 #[.int .i64 a, .int .i64 b] w fun e w' => e = .returned (.bool true) ∧ Below w.heap.size w w' := by
  go_enter Try.func8, Try.ntmps8
  go_wp2_with (first | (go_at_call 23; refine (c_SSubtractNumbers _ _ _).mono ?_; rintro e w' ⟨rfl, rfl⟩; unfold two) | (go_at_call 24; refine (c_SubtractNumbers _ _ _).mono ?_; rintro e w' ⟨rfl, hb⟩; unfold two))
  go_ret
  exact ⟨rfl, hb⟩
theorem w_FnExactDivideNumbers (a b : Int) (w : World) : Calls Try.prog 13 #[.int .i64 a, .int .i64 b] w fun e w' => e = .returned (.bool true) ∧ Below w.heap.size w w' := by
  go_enter Try.func13, Try.ntmps13
  go_wp2_with (first | (go_at_call 33; refine (c_SDivideNumbers _ _ _).mono ?_; rintro e w' ⟨rfl, rfl⟩; unfold two) | (go_at_call 34; refine (c_DivideNumbers _ _ _).mono ?_; rintro e w' ⟨rfl, hb⟩; unfold two))
  go_ret
  exact ⟨rfl, hb⟩
theorem w_FnExactFractionNumber (a b : Int) (w : World) : Calls Try.prog 10 #[.int .i64 a, .int .i64 b] w fun e w' => e = .returned (.bool true) ∧ Below w.heap.size w w' := by
  go_enter Try.func10, Try.ntmps10
  go_wp2_with (first | (go_at_call 27; refine (c_SFractionNumber _ _ _).mono ?_; rintro e w' ⟨rfl, rfl⟩; unfold two) | (go_at_call 28; refine (c_FractionNumber _ _ _).mono ?_; rintro e w' ⟨rfl, rfl⟩; unfold two))
  go_ret
  exact ⟨rfl, Below.refl _ _⟩
theorem w_FnExactPowerNumber (a b : Int) (w : World) : Calls Try.prog 11 #[.int .i64 a, .int .i64 b] w fun e w' => e = .returned (.bool true) ∧ Below w.heap.size w w' := by
  go_enter Try.func11, Try.ntmps11
  go_wp2_with (first | (go_at_call 29; refine (c_SPowerNumber _ _ _).mono ?_; rintro e w' ⟨rfl, rfl⟩; unfold two) | (go_at_call 30; refine (c_PowerNumber _ _ _).mono ?_; rintro e w' ⟨rfl, rfl⟩; unfold two))
  go_ret
  exact ⟨rfl, Below.refl _ _⟩
end Go.Proofs.Ytahbidcclkoloaa
