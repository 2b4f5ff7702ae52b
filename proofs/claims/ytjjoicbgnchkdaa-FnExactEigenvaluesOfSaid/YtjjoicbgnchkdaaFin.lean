/- Plain arithmetic: the field with 55441 elements as a type, its sums, and reduction of rows. No program in sight. -/
import Derived.Test.YtjjoicbgnchkdaaNum
namespace Fus

abbrev F := Fin 55441
/-- the integer of a number, and the number of an integer -/
def toI (a : F) : Int := (a.val : Int)
def ofI (x : Int) : F := ⟨(x % 55441).toNat, by omega⟩
theorem toI_bd (a : F) : 0 ≤ toI a ∧ toI a < 55441 := by unfold toI; have := a.isLt; omega
theorem toI_ofI (x : Int) : toI (ofI x) = x % 55441 := by unfold toI ofI; show ((x % 55441).toNat : Int) = _; omega
theorem toI_inj {a b : F} (h : toI a = toI b) : a = b := by unfold toI at h; exact Fin.ext (by omega)
theorem ofI_toI (a : F) : ofI (toI a) = a := toI_inj (by rw [toI_ofI]; have := toI_bd a; omega)
theorem ofI_eq {x y : Int} (h : x % 55441 = y % 55441) : ofI x = ofI y := toI_inj (by rw [toI_ofI, toI_ofI, h])
theorem ofI_mod (x : Int) : ofI (x % 55441) = ofI x := ofI_eq (by omega)
theorem toI_add (a b : F) : toI (a + b) = (toI a + toI b) % 55441 := by
  unfold toI; rw [Fin.val_add]; omega
theorem toI_mul (a b : F) : toI (a * b) = toI a * toI b % 55441 := by
  unfold toI; rw [Fin.val_mul]; exact Int.natCast_emod _ _ |>.trans (by rw [Int.natCast_mul]; rfl)
theorem toI_neg (a : F) : toI (-a) = (-toI a) % 55441 := by
  unfold toI; rw [Fin.val_neg']; have := a.isLt; omega
theorem toI_sub (a b : F) : toI (a - b) = (toI a - toI b) % 55441 := by
  unfold toI; rw [Fin.val_sub]; have := a.isLt; have := b.isLt; omega
theorem toI_zero : toI 0 = 0 := rfl
theorem toI_one : toI 1 = 1 := rfl
theorem ofI_add (x y : Int) : ofI (x + y) = ofI x + ofI y := toI_inj (by rw [toI_add, toI_ofI, toI_ofI, toI_ofI, ← Int.add_emod])
theorem ofI_mul (x y : Int) : ofI (x * y) = ofI x * ofI y := toI_inj (by rw [toI_mul, toI_ofI, toI_ofI, toI_ofI, ← Int.mul_emod])
theorem ofI_sub (x y : Int) : ofI (x - y) = ofI x - ofI y := toI_inj (by rw [toI_sub, toI_ofI, toI_ofI, toI_ofI, ← Int.sub_emod])
theorem ofI_neg (x : Int) : ofI (-x) = -ofI x := toI_inj (by rw [toI_neg, toI_ofI, toI_ofI]; omega)
theorem ofI_zero : ofI 0 = 0 := rfl
theorem ofI_one : ofI 1 = 1 := rfl
/-- what the programs reckon modulo the prime -/
theorem toI_of {x : Int} {a : F} (h : ofI x = a) : toI a = x % 55441 := by rw [← h, toI_ofI]
theorem toI_eq_zero {a : F} : toI a = 0 ↔ a = 0 := ⟨fun h => toI_inj h, fun h => by rw [h]; rfl⟩
theorem zero_ne_one : (0 : F) ≠ 1 := by decide

/-- the inverse of a number -/
def finv (a : F) : F := ⟨inv a.val, inv_lt _⟩
theorem mul_finv {a : F} (h : a ≠ 0) : a * finv a = 1 := by
  have h0 : 1 ≤ a.val := Nat.pos_of_ne_zero (fun e => h (Fin.ext e))
  exact Fin.ext (by rw [Fin.val_mul]; exact mul_inv a.val h0 a.isLt)
theorem toI_finv (a : F) : toI (finv a) = (inv (toI a).toNat : Nat) := rfl
theorem finv_zero : finv 0 = 0 := Fin.ext inv_zero
theorem finv_one : finv 1 = 1 := Fin.ext inv_one
theorem mul_zero_or {a b : F} (h : a * b = 0) : a = 0 ∨ b = 0 := by
  by_cases ha : a = 0
  · exact .inl ha
  · right
    have h1 := mul_finv ha
    grind
theorem finv_ne {a : F} (h : a ≠ 0) : finv a ≠ 0 := fun e => by have := mul_finv h; rw [e] at this; exact zero_ne_one (by grind)
attribute [irreducible] toI ofI finv

/-! tables of numbers, and their reduction -/
abbrev Mx := Nat → Nat → F
/-- the first place at which a test says yes, below n -/
def least (p : Nat → Bool) : Nat → Option Nat
  | 0 => none
  | n + 1 => match least p n with | some i => some i | none => if p n then some n else none
theorem least_none {p : Nat → Bool} {n : Nat} (h : ∀ i, i < n → p i = false) : least p n = none := by
  induction n with
  | zero => rfl
  | succ n ih => simp [least, ih (fun i hi => h i (by omega)), h n (by omega)]
theorem least_some {p : Nat → Bool} {n k : Nat} (hk : k < n) (h : ∀ i, i < k → p i = false) (hp : p k = true) : least p n = some k := by
  induction n with
  | zero => omega
  | succ n ih =>
    by_cases e : k = n
    · subst e; simp [least, least_none h, hp]
    · simp [least, ih (by omega)]
theorem least_cases (p : Nat → Bool) (n : Nat) : (∃ k, k < n ∧ p k = true ∧ (∀ i, i < k → p i = false) ∧ least p n = some k) ∨ ((∀ i, i < n → p i = false) ∧ least p n = none) := by
  induction n with
  | zero => exact .inr ⟨fun i h => by omega, rfl⟩
  | succ n ih =>
    rcases ih with ⟨k, h1, h2, h3, h4⟩ | ⟨h1, h2⟩
    · exact .inl ⟨k, by omega, h2, h3, by simp [least, h4]⟩
    · cases hp : p n
      · exact .inr ⟨fun i hi => if e : i = n then e ▸ hp else h1 i (by omega), by simp [least, h2, hp]⟩
      · exact .inl ⟨n, by omega, hp, h1, by simp [least, h2, hp]⟩

/-- a row is put in -/
def setR (f : Mx) (a : Nat) (v : Nat → F) : Mx := fun i j => if i = a then v j else f i j
def swapR (f : Mx) (a b : Nat) : Mx := fun i j => if i = a then f b j else if i = b then f a j else f i j
def scaleR (f : Mx) (d : Nat) (c : F) : Mx := fun i j => if i = d then f i j * c else f i j
def clearR (f : Mx) (d k : Nat) : Mx := fun i j => if i = d then f i j else f i j - f i k * f d j
structure RS where
  f : Mx
  d : Nat
  det : F
/-- the first of the rows from d on with a number other than 0 in column k -/
def pivot (f : Mx) (k d r : Nat) : Option Nat := least (fun i => f (d + i) k != 0) (r - d)
def stepR (r k : Nat) (s : RS) : RS :=
  match pivot s.f k s.d r with
  | none => ⟨s.f, s.d, 0⟩
  | some n =>
    let g := swapR s.f s.d (s.d + n)
    ⟨clearR (scaleR g s.d (finv (g s.d k))) s.d k, s.d + 1, (if n = 0 then s.det else -s.det) * g s.d k⟩
/-- r rows reduced in the first k columns -/
def redR (r : Nat) (f : Mx) : Nat → RS
  | 0 => ⟨f, 0, 1⟩
  | k + 1 => stepR r k (redR r f k)
theorem redR_succ (r : Nat) (f : Mx) (k : Nat) : redR r f (k + 1) = stepR r k (redR r f k) := rfl
theorem pivot_cases (f : Mx) (k d r : Nat) : (∃ n, d + n < r ∧ f (d + n) k ≠ 0 ∧ (∀ i, i < n → f (d + i) k = 0) ∧ pivot f k d r = some n) ∨ ((∀ i, d ≤ i → i < r → f i k = 0) ∧ pivot f k d r = none) := by
  rcases least_cases (fun i => f (d + i) k != 0) (r - d) with ⟨n, h1, h2, h3, h4⟩ | ⟨h1, h2⟩
  · exact .inl ⟨n, by omega, by simpa using h2, fun i hi => by simpa using h3 i hi, h4⟩
  · refine .inr ⟨fun i hi hr => ?_, h2⟩
    have := h1 (i - d) (by omega)
    rw [show d + (i - d) = i from by omega] at this
    simpa using this
theorem stepR_none {r k : Nat} {s : RS} (h : pivot s.f k s.d r = none) : stepR r k s = ⟨s.f, s.d, 0⟩ := by
  unfold stepR; rw [h]
theorem stepR_some {r k n : Nat} {s : RS} (h : pivot s.f k s.d r = some n) : stepR r k s = ⟨clearR (scaleR (swapR s.f s.d (s.d + n)) s.d (finv (s.f (s.d + n) k))) s.d k, s.d + 1, (if n = 0 then s.det else -s.det) * s.f (s.d + n) k⟩ := by
  have e : swapR s.f s.d (s.d + n) s.d k = s.f (s.d + n) k := by simp [swapR]
  unfold stepR; rw [h]; simp only [e]
theorem pivot_some {f : Mx} {k d r p : Nat} (h1 : d ≤ p) (h2 : p < r) (hne : f p k ≠ 0) (hz : ∀ i, d ≤ i → i < p → f i k = 0) : pivot f k d r = some (p - d) := by
  refine least_some (by omega) (fun i hi => ?_) ?_
  · have := hz (d + i) (by omega) (by omega)
    simp [this]
  · rw [show d + (p - d) = p from by omega]; simpa using hne
theorem pivot_none {f : Mx} {k d r : Nat} (hz : ∀ i, d ≤ i → i < r → f i k = 0) : pivot f k d r = none :=
  least_none fun i hi => by simp [hz (d + i) (by omega) (by omega)]
theorem step_some {r k p : Nat} {s : RS} (h1 : s.d ≤ p) (h2 : p < r) (hne : s.f p k ≠ 0) (hz : ∀ i, s.d ≤ i → i < p → s.f i k = 0) :
    stepR r k s = ⟨clearR (scaleR (swapR s.f s.d p) s.d (finv (s.f p k))) s.d k, s.d + 1, (if p = s.d then s.det else -s.det) * s.f p k⟩ := by
  rw [stepR_some (pivot_some h1 h2 hne hz), show s.d + (p - s.d) = p from by omega]
  by_cases e : p = s.d
  · rw [if_pos (by omega), if_pos e]
  · rw [if_neg (by omega), if_neg e]
theorem step_none {r k : Nat} {s : RS} (hz : ∀ i, s.d ≤ i → i < r → s.f i k = 0) : stepR r k s = ⟨s.f, s.d, 0⟩ := stepR_none (pivot_none hz)
theorem redR_d (r : Nat) (f : Mx) (k : Nat) : (redR r f k).d ≤ r ∧ (redR r f k).d ≤ k := by
  induction k with
  | zero => exact ⟨Nat.zero_le _, Nat.le_refl _⟩
  | succ k ih =>
    rw [redR_succ]
    rcases pivot_cases (redR r f k).f k (redR r f k).d r with ⟨n, h1, _, _, h4⟩ | ⟨_, h2⟩
    · rw [stepR_some h4]; exact ⟨by show _ + 1 ≤ r; omega, by show _ + 1 ≤ k + 1; omega⟩
    · rw [stepR_none h2]; exact ⟨ih.1, by show (redR r f k).d ≤ k + 1; omega⟩
end Fus
