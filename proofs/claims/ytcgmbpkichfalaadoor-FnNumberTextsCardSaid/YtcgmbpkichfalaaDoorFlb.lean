/- Walks of the prime field's functions, second part: quotients, powers, orders, roots, logarithms, short fractions. -/
import Derived.Test.YtcgmbpkichfalaaDoorSl
namespace Go.Proofs.YtcgmbpkichfalaaDoor
open Go.RowKit

theorem iinv_zero : iinv 0 = 0 := by rw [iinv_nat]; exact congrArg Int.ofNat Fus.inv_zero
theorem one_iinv (x : Int) : 1 * iinv x % 55441 = iinv x := by have := iinv_bd x; omega


/-- a power with an exponent of whatever sign -/
def zpw (a k : Int) : Int := if k < 0 then iinv (ipw a (-k)) else ipw a k
theorem iinv_ipw (a k : Int) : iinv (ipw a k) = ipw (iinv a) k := by
  rw [iinv_nat, ipw_eq, ipw_eq, iinv_nat]
  simp only [Int.toNat_natCast]
  unfold Fus.inv
  rw [Fus.pw_pw, Fus.pw_pw, Nat.mul_comm]
def powN (a k : Int) : Int × Int :=
  if isNum a = true ∧ inR (-1000000) 1000000 k = true then (if a = 0 ∧ k < 0 then (0, 5) else (zpw a k, 0)) else (0, 2)


end Go.Proofs.YtcgmbpkichfalaaDoor
