/- Walk of the law on numbers: it returns true. -/
import Derived.Test.YtdfienoilcgneaaDrz
namespace Go.Proofs.Ytdfienoilcgneaa
open Go.RowKit
theorem c_big (u : Value) (bs : List Int) (w : World) (hu : Bytes w u bs) :
    Calls Try.prog 4 #[u] w fun e w' => e = .returned (.bool (decide (4096 < (bs.length : Int)))) ∧ w = w' := by
  obtain ⟨a, cap, rfl, _, hc⟩ := hu
  clear hc
  go_enter Try.func4, Try.ntmps4
  go_wp2_with fail
  go_ret
  exact ⟨rfl, rfl⟩
theorem powN_ok {b k : Int} (hb : isNum b = true) (h0 : b ≠ 0) (h1 : -1000000 ≤ k) (h2 : k ≤ 1000000) : powN b k = (zpw b k, 0) := by
  unfold powN
  rw [if_pos ⟨hb, by simp [inR, h1, h2]⟩, if_neg (fun h => h0 h.1)]
end Go.Proofs.Ytdfienoilcgneaa
