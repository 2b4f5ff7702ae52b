/- Plain algebra over the field with 55441 elements: sums, products of tables. No program in sight. -/
import Derived.Test.YtjjoicbgnchkdaaFin
namespace Fus
/-! sums -/
def sm (n : Nat) (f : Nat → F) : F := match n with | 0 => 0 | k + 1 => sm k f + f k
theorem sm_succ (n : Nat) (f : Nat → F) : sm (n + 1) f = sm n f + f n := rfl
theorem sm_congr {n : Nat} {f g : Nat → F} (h : ∀ i, i < n → f i = g i) : sm n f = sm n g := by
  induction n with
  | zero => rfl
  | succ n ih => rw [sm_succ, sm_succ, ih (fun i hi => h i (by omega)), h n (by omega)]
theorem sm_zero {n : Nat} {f : Nat → F} (h : ∀ i, i < n → f i = 0) : sm n f = 0 := by
  induction n with
  | zero => rfl
  | succ n ih => rw [sm_succ, ih (fun i hi => h i (by omega)), h n (by omega)]; rfl
theorem sm_add (n : Nat) (f g : Nat → F) : sm n (fun i => f i + g i) = sm n f + sm n g := by
  induction n with
  | zero => rfl
  | succ n ih => simp only [sm_succ, ih]; grind
theorem sm_sub (n : Nat) (f g : Nat → F) : sm n (fun i => f i - g i) = sm n f - sm n g := by
  induction n with
  | zero => rfl
  | succ n ih => simp only [sm_succ, ih]; grind
theorem sm_mul (n : Nat) (c : F) (f : Nat → F) : sm n (fun i => c * f i) = c * sm n f := by
  induction n with
  | zero => simp only [sm]; grind
  | succ n ih => simp only [sm_succ, ih]; grind
theorem sm_mul' (n : Nat) (c : F) (f : Nat → F) : sm n (fun i => f i * c) = sm n f * c := by
  induction n with
  | zero => simp only [sm]; grind
  | succ n ih => simp only [sm_succ, ih]; grind
theorem sm_comm (m n : Nat) (f : Nat → Nat → F) : sm m (fun i => sm n (fun j => f i j)) = sm n (fun j => sm m (fun i => f i j)) := by
  induction m with
  | zero => exact (sm_zero fun _ _ => rfl).symm
  | succ m ih => simp only [sm_succ, ih, ← sm_add]
theorem sm_one {n k : Nat} {f : Nat → F} (hk : k < n) (h : ∀ i, i < n → i ≠ k → f i = 0) : sm n f = f k := by
  induction n with
  | zero => omega
  | succ n ih =>
    by_cases e : k = n
    · subst e; rw [sm_succ, sm_zero (fun i hi => h i (by omega) (by omega))]; simp
    · rw [sm_succ, ih (by omega) (fun i hi hne => h i (by omega) hne), h n (by omega) (fun e' => e e'.symm)]; simp

/-! products of tables -/
def mm (n : Nat) (a b : Mx) : Mx := fun i j => sm n fun k => a i k * b k j
def one : Mx := fun i j => if i = j then 1 else 0
def tr (a : Mx) : Mx := fun i j => a j i
theorem mm_assoc (m n : Nat) (a b c : Mx) (i j : Nat) : mm n (mm m a b) c i j = mm m a (mm n b c) i j := by
  simp only [mm]
  have h1 : (sm n fun k => (sm m fun l => a i l * b l k) * c k j) = sm n fun k => sm m fun l => a i l * b l k * c k j := sm_congr fun k _ => (sm_mul' _ _ _).symm
  have h2 : (sm m fun l => a i l * sm n fun k => b l k * c k j) = sm m fun l => sm n fun k => a i l * b l k * c k j := sm_congr fun l _ => by
    rw [← sm_mul]; exact sm_congr fun k _ => by grind
  rw [h1, h2, sm_comm]
theorem mm_tr (n : Nat) (a b : Mx) (i j : Nat) : mm n (tr b) (tr a) i j = tr (mm n a b) i j := by
  simp only [mm, tr]; exact sm_congr fun k _ => by grind
theorem one_mm {n : Nat} (a : Mx) {i : Nat} (j : Nat) (hi : i < n) : mm n one a i j = a i j := by
  simp only [mm, one]
  rw [sm_one hi (fun k _ hne => by rw [if_neg (fun e => hne e.symm)]; grind)]
  simp only [if_true]; grind
theorem mm_one {n : Nat} (a : Mx) (i : Nat) {j : Nat} (hj : j < n) : mm n a one i j = a i j := by
  simp only [mm, one]
  rw [sm_one hj (fun k _ hne => by rw [if_neg hne]; grind)]
  simp only [if_true]; grind
theorem mm_congr {n : Nat} {a a' b b' : Mx} {i j : Nat} (h : ∀ k, k < n → a i k = a' i k) (h' : ∀ k, k < n → b k j = b' k j) : mm n a b i j = mm n a' b' i j :=
  sm_congr fun k hk => by rw [h k hk, h' k hk]
end Fus
