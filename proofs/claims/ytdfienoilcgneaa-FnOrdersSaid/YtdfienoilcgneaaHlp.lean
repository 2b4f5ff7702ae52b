/- Walks of the laws' helpers over lists of integers. -/
import Derived.Test.YtdfienoilcgneaaMem
import Derived.Deep.OwnRows
import Derived.IntWalk
namespace Go.Proofs.Ytdfienoilcgneaa
open Go.RowKit


/-- are two lists equal, by a Bool that no rule opens -/
def eqL (xs ys : List Int) : Bool := decide (xs = ys)
theorem eqL_true {xs ys : List Int} (hl : xs.length = ys.length) (h : ∀ (i : Nat) x y, xs[i]? = some x → ys[i]? = some y → x = y) : eqL xs ys = true := by
  refine decide_eq_true (List.ext_getElem hl fun i h1 h2 => h i _ _ (List.getElem?_eq_getElem h1) (List.getElem?_eq_getElem h2))
theorem eqL_len {xs ys : List Int} (h : xs.length ≠ ys.length) : eqL xs ys = false := decide_eq_false (fun e => h (by rw [e]))
theorem eqL_ne {xs ys : List Int} {k : Nat} {x y : Int} (h1 : xs[k]? = some x) (h2 : ys[k]? = some y) (h : x ≠ y) : eqL xs ys = false :=
  decide_eq_false (fun e => h (by rw [e, h2] at h1; cases h1; rfl))
theorem eqL_self (xs : List Int) : eqL xs xs = true := decide_eq_true rfl
attribute [irreducible] eqL
theorem ret_bool {a b : Bool} (h : a = b) : Ending.returned (.bool a) = .returned (.bool b) := by rw [h]



/-! sums of products -/
def dotK (xs ys : List Int) : Nat → Int
  | 0 => 0
  | k + 1 => dotK xs ys k + xs.getD k 0 * ys.getD k 0
/-- the sum of the products of numbers with the same indices -/
def dotZ (xs ys : List Int) : Int := dotK xs ys xs.length % 55441
theorem dotK_next {xs ys : List Int} {k : Nat} {x y : Int} (hx : xs[k]? = some x) (hy : ys[k]? = some y) : dotK xs ys (k + 1) = dotK xs ys k + x * y := by
  simp [dotK, List.getD_eq_getElem?_getD, hx, hy]
theorem nums_at {xs : List Int} (h : xs.all isNum = true) {k : Nat} {x : Int} (hx : xs[k]? = some x) : 0 ≤ x ∧ x < 55441 :=
  isNum_true (List.all_eq_true.1 h x (List.mem_of_getElem? hx))
theorem dotZ_bd (xs ys : List Int) : 0 ≤ dotZ xs ys ∧ dotZ xs ys < 55441 := by unfold dotZ; omega
end Go.Proofs.Ytdfienoilcgneaa
