/- Walks of further laws over integers: each returns true. -/
import Derived.Test.YtahbidcclkoloaaFlf
namespace Go.Proofs.Ytahbidcclkoloaa
open Go.RowKit
theorem w_FnExactPrimitiveNumber (w : World) : Calls Try.prog 5 #[] w fun e w' => e = .returned (.bool true) ∧ Below w.heap.size w w' := by
  go_enter Try.func5, Try.ntmps5
  go_wp2_with (first | (go_at_call 17; refine (c_SPrimitiveNumber _).mono ?_; rintro e w' ⟨rfl, hb⟩) | (go_at_call 18; refine (c_PrimitiveNumber _).mono ?_; rintro e w' ⟨rfl, rfl⟩))
  go_ret
  exact ⟨rfl, hb⟩
theorem w_FnExactRootOfUnity (a : Int) (w : World) : Calls Try.prog 14 #[.int .i64 a] w fun e w' => e = .returned (.bool true) ∧ Below w.heap.size w w' := by
  go_enter Try.func14, Try.ntmps14
  go_wp2_with (first | (go_at_call 35; refine (c_SRootOfUnity _ _).mono ?_; rintro e w' ⟨rfl, hb⟩; unfold two) | (go_at_call 36; refine (c_RootOfUnity _ _).mono ?_; rintro e w' ⟨rfl, rfl⟩; unfold two))
  go_ret
  exact ⟨rfl, hb⟩
theorem w_FnExactSquareRoot (a : Int) (w : World) : Calls Try.prog 9 #[.int .i64 a] w fun e w' => e = .returned (.bool true) ∧ Below w.heap.size w w' := by
  go_enter Try.func9, Try.ntmps9
  go_wp2_with (first | (go_at_call 25; refine (c_SSquareRoot _ _).mono ?_; rintro e w' ⟨rfl, rfl⟩; unfold two) | (go_at_call 26; refine (c_SquareRoot _ _).mono ?_; rintro e w' ⟨rfl, rfl⟩; unfold two))
  go_ret
  exact ⟨rfl, Below.refl _ _⟩
theorem w_FnExactShortFraction (a : Int) (w : World) : Calls Try.prog 12 #[.int .i64 a] w fun e w' => e = .returned (.bool true) ∧ Below w.heap.size w w' := by
  go_enter Try.func12, Try.ntmps12
  go_wp2_with (first | (go_at_call 31; refine (c_SShortFraction _ _).mono ?_; rintro e w' ⟨rfl, rfl⟩; unfold three) | (go_at_call 32; refine (c_ShortFraction _ _).mono ?_; rintro e w' ⟨rfl, hb⟩; unfold three))
  go_ret
  exact ⟨rfl, hb⟩
end Go.Proofs.Ytahbidcclkoloaa
