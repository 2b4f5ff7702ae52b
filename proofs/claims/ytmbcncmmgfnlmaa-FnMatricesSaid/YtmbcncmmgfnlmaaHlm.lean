/- Walks of the laws' helpers over rows of integers. -/
import Derived.Test.YtmbcncmmgfnlmaaHlp
namespace Go.Proofs.Ytmbcncmmgfnlmaa
open Go.RowKit

/-- how many cells the first rows have -/
def totK (xss : List (List Int)) : Nat → Int
  | 0 => 0
  | i + 1 => totK xss i + (xss.getD i []).length
theorem totK_next {xss : List (List Int)} {k : Nat} {xs : List Int} (h : xss[k]? = some xs) : totK xss (k + 1) = totK xss k + xs.length := by
  simp [totK, List.getD_eq_getElem?_getD, h]
theorem totK_nonneg (xss : List (List Int)) (k : Nat) : 0 ≤ totK xss k := by
  induction k with
  | zero => exact Int.le_refl _
  | succ k ih => simp only [totK]; omega
theorem totK_mono (xss : List (List Int)) {k n : Nat} (h : k ≤ n) : totK xss k ≤ totK xss n := by
  induction h with
  | refl => exact Int.le_refl _
  | step _ ih => simp only [totK]; omega
theorem info_ints : (Try.prog.info? 35).map (fun i => (i.zero, i.size, i.bytes)) = some (some (.slice none 0 0), 1, 24) := by kernel_rfl
def eqLL (xs ys : List (List Int)) : Bool := decide (xs = ys)
theorem eqLL_true {xs ys : List (List Int)} (hl : xs.length = ys.length) (h : ∀ (i : Nat) x y, xs[i]? = some x → ys[i]? = some y → x = y) : eqLL xs ys = true := by
  refine decide_eq_true (List.ext_getElem hl fun i h1 h2 => h i _ _ (List.getElem?_eq_getElem h1) (List.getElem?_eq_getElem h2))
theorem eqLL_len {xs ys : List (List Int)} (h : xs.length ≠ ys.length) : eqLL xs ys = false := decide_eq_false (fun e => h (by rw [e]))
theorem eqLL_ne {xs ys : List (List Int)} {k : Nat} {x y : List Int} (h1 : xs[k]? = some x) (h2 : ys[k]? = some y) (h : eqL x y = false) : eqLL xs ys = false :=
  decide_eq_false (fun e => by rw [e, h2] at h1; cases h1; rw [eqL_self] at h; cases h)
theorem eqLL_self (xs : List (List Int)) : eqLL xs xs = true := decide_eq_true rfl
attribute [irreducible] eqLL
theorem eqL_eq {xs ys : List Int} (h : eqL xs ys = true) : xs = ys := by unfold eqL at h; exact of_decide_eq_true h

end Go.Proofs.Ytmbcncmmgfnlmaa
