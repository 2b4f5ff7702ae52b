/- Walks of the prime field's functions, fifth part: short fractions, greatest common divisors, logarithms, orders. -/
import Derived.Test.YtmbcncmmgfnlmaaFle
namespace Go.Proofs.Ytmbcncmmgfnlmaa
open Go.RowKit


theorem okQ_eq (a : Int) (i : Nat) : Fus.okQ a i = (inR (-166) 166 (Fus.cres a (i + 1)) && decide (Int.gcd (Fus.cres a (i + 1)) (i + 1) = 1)) := by
  unfold Fus.okQ Fus.okS inR; rfl
theorem okS_eq (a : Int) (i : Nat) : Fus.okS a i = inR (-166) 166 (Fus.cres a (i + 1)) := by unfold Fus.okS inR; rfl
theorem cres_hi {a q : Int} (h : 27720 < a * q % 55441) : Fus.cres a q = a * q % 55441 - 55441 := by unfold Fus.cres; rw [if_pos h]
theorem cres_lo {a q : Int} (h : ¬ 27720 < a * q % 55441) : Fus.cres a q = a * q % 55441 := by unfold Fus.cres; rw [if_neg h]
theorem short_found {a q : Int} (h1 : 1 ≤ q) (h2 : q ≤ 166) (hj : ∀ j : Nat, (j : Int) + 1 < q → Fus.okQ a j = false) (h : Fus.okQ a (q - 1).toNat = true) : Fus.shortF a = (Fus.cres a q, q) := by
  rw [Fus.shortF_Q, Fus.least_some (k := (q - 1).toNat) (by omega) h (fun j hj' => hj j (by omega))]
  unfold Fus.shortOf
  simp only [show (((q - 1).toNat : Nat) : Int) + 1 = q from by omega]
theorem short_none {a : Int} (hj : ∀ j : Nat, (j : Int) + 1 < 167 → Fus.okQ a j = false) : Fus.shortF a = (0, 0) := by
  rw [Fus.shortF_Q, Fus.least_none (fun j hj' => hj j (by omega))]; rfl
theorem short_foundS {a q : Int} (h1 : 1 ≤ q) (h2 : q ≤ 166) (hj : ∀ j : Nat, (j : Int) + 1 < q → Fus.okS a j = false) (h : Fus.okS a (q - 1).toNat = true) : Fus.shortF a = (Fus.cres a q, q) := by
  unfold Fus.shortF
  rw [Fus.least_some (k := (q - 1).toNat) (by omega) h (fun j hj' => hj j (by omega))]
  unfold Fus.shortOf
  simp only [show (((q - 1).toNat : Nat) : Int) + 1 = q from by omega]
theorem short_noneS {a : Int} (hj : ∀ j : Nat, (j : Int) + 1 < 167 → Fus.okS a j = false) : Fus.shortF a = (0, 0) := by
  unfold Fus.shortF; rw [Fus.least_none (fun j hj' => hj j (by omega))]; rfl
theorem prod_bd2 {x y : Int} (h1 : 0 ≤ x) (h2 : x < 55441) (h3 : 0 ≤ y) (h4 : y ≤ 167) : 0 ≤ x * y ∧ x * y ≤ 9258480 :=
  ⟨Int.mul_nonneg h1 h3, Int.le_trans (Int.mul_le_mul (show x ≤ 55440 by omega) h4 h3 (by omega)) (by omega)⟩
theorem pred_cast {q : Int} (h : 1 ≤ q) : (((q - 1).toNat : Nat) : Int) + 1 = q := by omega


/-- the short fraction with its code -/
def shortN (a : Int) : Int × Int × Int :=
  if isNum a = true then (if (Fus.shortF a).2 = 0 then (0, 0, 4) else ((Fus.shortF a).1, (Fus.shortF a).2, 0)) else (0, 0, 2)
def three (r : Int × Int × Int) : Value := .tuple #[.int .i64 r.1, .int .i64 r.2.1, .int .i64 r.2.2]
theorem ret_three {a b c : Int} {r : Int × Int × Int} (h : r = (a, b, c)) : Ending.returned (.tuple #[.int .i64 a, .int .i64 b, .int .i64 c]) = .returned (.tuple #[.int .i64 r.1, .int .i64 r.2.1, .int .i64 r.2.2]) := by rw [h]


end Go.Proofs.Ytmbcncmmgfnlmaa
