/- Walk of the law on numbers. -/
import Derived.Test.YtdfienoilcgneaaDrx
import Derived.Test.YtdfienoilcgneaaDry
namespace Go.Proofs.Ytdfienoilcgneaa
open Go.RowKit
theorem c_mod5 (a : Int) (w : World) :
    Calls Try.prog 18 #[.int .i64 a] w fun e w' => e = .returned (.int .i64 (a % 55441)) ∧ w = w' := by
  have hb := tmod_bd a
  go_enter Try.func18, Try.ntmps18
  go_wp2
  go_ret
  exact ⟨ret_int (tmod_mod a), rfl⟩
end Go.Proofs.Ytdfienoilcgneaa
