/- Plain algebra over the field with 55441 elements: tables, reduction, determinants, polynomials, kernels, inverse tables. No program in sight. -/
import Derived.Test.YtmbcncmmgfnlmaaNum
namespace Fus

abbrev F := Fin 55441
/-- the integer of a number, and the number of an integer -/
def toI (a : F) : Int := (a.val : Int)
def ofI (x : Int) : F := ⟨(x % 55441).toNat, by omega⟩
theorem toI_bd (a : F) : 0 ≤ toI a ∧ toI a < 55441 := by unfold toI; have := a.isLt; omega
theorem toI_ofI (x : Int) : toI (ofI x) = x % 55441 := by unfold toI ofI; show ((x % 55441).toNat : Int) = _; omega
theorem toI_inj {a b : F} (h : toI a = toI b) : a = b := by unfold toI at h; exact Fin.ext (by omega)
theorem ofI_toI (a : F) : ofI (toI a) = a := toI_inj (by rw [toI_ofI]; have := toI_bd a; omega)
theorem ofI_eq {x y : Int} (h : x % 55441 = y % 55441) : ofI x = ofI y := toI_inj (by rw [toI_ofI, toI_ofI, h])
theorem ofI_mod (x : Int) : ofI (x % 55441) = ofI x := ofI_eq (by omega)
theorem toI_add (a b : F) : toI (a + b) = (toI a + toI b) % 55441 := by
  unfold toI; rw [Fin.val_add]; omega
theorem toI_mul (a b : F) : toI (a * b) = toI a * toI b % 55441 := by
  unfold toI; rw [Fin.val_mul]; exact Int.natCast_emod _ _ |>.trans (by rw [Int.natCast_mul]; rfl)
theorem toI_neg (a : F) : toI (-a) = (-toI a) % 55441 := by
  unfold toI; rw [Fin.val_neg']; have := a.isLt; omega
theorem toI_sub (a b : F) : toI (a - b) = (toI a - toI b) % 55441 := by
  unfold toI; rw [Fin.val_sub]; have := a.isLt; have := b.isLt; omega
theorem toI_zero : toI 0 = 0 := rfl
theorem toI_one : toI 1 = 1 := rfl
theorem ofI_add (x y : Int) : ofI (x + y) = ofI x + ofI y := toI_inj (by rw [toI_add, toI_ofI, toI_ofI, toI_ofI, ← Int.add_emod])
theorem ofI_mul (x y : Int) : ofI (x * y) = ofI x * ofI y := toI_inj (by rw [toI_mul, toI_ofI, toI_ofI, toI_ofI, ← Int.mul_emod])
theorem ofI_sub (x y : Int) : ofI (x - y) = ofI x - ofI y := toI_inj (by rw [toI_sub, toI_ofI, toI_ofI, toI_ofI, ← Int.sub_emod])
theorem ofI_neg (x : Int) : ofI (-x) = -ofI x := toI_inj (by rw [toI_neg, toI_ofI, toI_ofI]; omega)
theorem ofI_zero : ofI 0 = 0 := rfl
theorem ofI_one : ofI 1 = 1 := rfl
/-- what the programs reckon modulo the prime -/
theorem toI_of {x : Int} {a : F} (h : ofI x = a) : toI a = x % 55441 := by rw [← h, toI_ofI]
theorem toI_eq_zero {a : F} : toI a = 0 ↔ a = 0 := ⟨fun h => toI_inj h, fun h => by rw [h]; rfl⟩
theorem zero_ne_one : (0 : F) ≠ 1 := by decide

/-- the inverse of a number -/
def finv (a : F) : F := ⟨inv a.val, inv_lt _⟩
theorem mul_finv {a : F} (h : a ≠ 0) : a * finv a = 1 := by
  have h0 : 1 ≤ a.val := Nat.pos_of_ne_zero (fun e => h (Fin.ext e))
  exact Fin.ext (by rw [Fin.val_mul]; exact mul_inv a.val h0 a.isLt)
theorem toI_finv (a : F) : toI (finv a) = (inv (toI a).toNat : Nat) := rfl
theorem finv_zero : finv 0 = 0 := Fin.ext inv_zero
theorem finv_one : finv 1 = 1 := Fin.ext inv_one
theorem mul_zero_or {a b : F} (h : a * b = 0) : a = 0 ∨ b = 0 := by
  by_cases ha : a = 0
  · exact .inl ha
  · right
    have h1 := mul_finv ha
    grind
theorem finv_ne {a : F} (h : a ≠ 0) : finv a ≠ 0 := fun e => by have := mul_finv h; rw [e] at this; exact zero_ne_one (by grind)
attribute [irreducible] toI ofI finv

/-! tables of numbers, and their reduction -/
abbrev Mx := Nat → Nat → F
/-- the first place at which a test says yes, below n -/
def leastR (p : Nat → Bool) : Nat → Option Nat
  | 0 => none
  | n + 1 => match leastR p n with | some i => some i | none => if p n then some n else none
theorem leastR_none {p : Nat → Bool} {n : Nat} (h : ∀ i, i < n → p i = false) : leastR p n = none := by
  induction n with
  | zero => rfl
  | succ n ih => simp [leastR, ih (fun i hi => h i (by omega)), h n (by omega)]
theorem leastR_some {p : Nat → Bool} {n k : Nat} (hk : k < n) (h : ∀ i, i < k → p i = false) (hp : p k = true) : leastR p n = some k := by
  induction n with
  | zero => omega
  | succ n ih =>
    by_cases e : k = n
    · subst e; simp [leastR, leastR_none h, hp]
    · simp [leastR, ih (by omega)]
theorem leastR_cases (p : Nat → Bool) (n : Nat) : (∃ k, k < n ∧ p k = true ∧ (∀ i, i < k → p i = false) ∧ leastR p n = some k) ∨ ((∀ i, i < n → p i = false) ∧ leastR p n = none) := by
  induction n with
  | zero => exact .inr ⟨fun i h => by omega, rfl⟩
  | succ n ih =>
    rcases ih with ⟨k, h1, h2, h3, h4⟩ | ⟨h1, h2⟩
    · exact .inl ⟨k, by omega, h2, h3, by simp [leastR, h4]⟩
    · cases hp : p n
      · exact .inr ⟨fun i hi => if e : i = n then e ▸ hp else h1 i (by omega), by simp [leastR, h2, hp]⟩
      · exact .inl ⟨n, by omega, hp, h1, by simp [leastR, h2, hp]⟩

/-- a row is put in -/
def setR (f : Mx) (a : Nat) (v : Nat → F) : Mx := fun i j => if i = a then v j else f i j
def swapR (f : Mx) (a b : Nat) : Mx := fun i j => if i = a then f b j else if i = b then f a j else f i j
def scaleR (f : Mx) (d : Nat) (c : F) : Mx := fun i j => if i = d then f i j * c else f i j
def clearR (f : Mx) (d k : Nat) : Mx := fun i j => if i = d then f i j else f i j - f i k * f d j
structure RS where
  f : Mx
  d : Nat
  det : F
/-- the first of the rows from d on with a number other than 0 in column k -/
def pivot (f : Mx) (k d r : Nat) : Option Nat := leastR (fun i => f (d + i) k != 0) (r - d)
def stepR (r k : Nat) (s : RS) : RS :=
  match pivot s.f k s.d r with
  | none => ⟨s.f, s.d, 0⟩
  | some n =>
    let g := swapR s.f s.d (s.d + n)
    ⟨clearR (scaleR g s.d (finv (g s.d k))) s.d k, s.d + 1, (if n = 0 then s.det else -s.det) * g s.d k⟩
/-- r rows reduced in the first k columns -/
def redR (r : Nat) (f : Mx) : Nat → RS
  | 0 => ⟨f, 0, 1⟩
  | k + 1 => stepR r k (redR r f k)
theorem redR_succ (r : Nat) (f : Mx) (k : Nat) : redR r f (k + 1) = stepR r k (redR r f k) := rfl
theorem pivot_cases (f : Mx) (k d r : Nat) : (∃ n, d + n < r ∧ f (d + n) k ≠ 0 ∧ (∀ i, i < n → f (d + i) k = 0) ∧ pivot f k d r = some n) ∨ ((∀ i, d ≤ i → i < r → f i k = 0) ∧ pivot f k d r = none) := by
  rcases leastR_cases (fun i => f (d + i) k != 0) (r - d) with ⟨n, h1, h2, h3, h4⟩ | ⟨h1, h2⟩
  · exact .inl ⟨n, by omega, by simpa using h2, fun i hi => by simpa using h3 i hi, h4⟩
  · refine .inr ⟨fun i hi hr => ?_, h2⟩
    have := h1 (i - d) (by omega)
    rw [show d + (i - d) = i from by omega] at this
    simpa using this
theorem stepR_none {r k : Nat} {s : RS} (h : pivot s.f k s.d r = none) : stepR r k s = ⟨s.f, s.d, 0⟩ := by
  unfold stepR; rw [h]
theorem stepR_some {r k n : Nat} {s : RS} (h : pivot s.f k s.d r = some n) : stepR r k s = ⟨clearR (scaleR (swapR s.f s.d (s.d + n)) s.d (finv (s.f (s.d + n) k))) s.d k, s.d + 1, (if n = 0 then s.det else -s.det) * s.f (s.d + n) k⟩ := by
  have e : swapR s.f s.d (s.d + n) s.d k = s.f (s.d + n) k := by simp [swapR]
  unfold stepR; rw [h]; simp only [e]
theorem pivot_some {f : Mx} {k d r p : Nat} (h1 : d ≤ p) (h2 : p < r) (hne : f p k ≠ 0) (hz : ∀ i, d ≤ i → i < p → f i k = 0) : pivot f k d r = some (p - d) := by
  refine leastR_some (by omega) (fun i hi => ?_) ?_
  · have := hz (d + i) (by omega) (by omega)
    simp [this]
  · rw [show d + (p - d) = p from by omega]; simpa using hne
theorem pivot_none {f : Mx} {k d r : Nat} (hz : ∀ i, d ≤ i → i < r → f i k = 0) : pivot f k d r = none :=
  leastR_none fun i hi => by simp [hz (d + i) (by omega) (by omega)]
theorem step_some {r k p : Nat} {s : RS} (h1 : s.d ≤ p) (h2 : p < r) (hne : s.f p k ≠ 0) (hz : ∀ i, s.d ≤ i → i < p → s.f i k = 0) :
    stepR r k s = ⟨clearR (scaleR (swapR s.f s.d p) s.d (finv (s.f p k))) s.d k, s.d + 1, (if p = s.d then s.det else -s.det) * s.f p k⟩ := by
  rw [stepR_some (pivot_some h1 h2 hne hz), show s.d + (p - s.d) = p from by omega]
  by_cases e : p = s.d
  · rw [if_pos (by omega), if_pos e]
  · rw [if_neg (by omega), if_neg e]
theorem step_none {r k : Nat} {s : RS} (hz : ∀ i, s.d ≤ i → i < r → s.f i k = 0) : stepR r k s = ⟨s.f, s.d, 0⟩ := stepR_none (pivot_none hz)
theorem redR_d (r : Nat) (f : Mx) (k : Nat) : (redR r f k).d ≤ r ∧ (redR r f k).d ≤ k := by
  induction k with
  | zero => exact ⟨Nat.zero_le _, Nat.le_refl _⟩
  | succ k ih =>
    rw [redR_succ]
    rcases pivot_cases (redR r f k).f k (redR r f k).d r with ⟨n, h1, _, _, h4⟩ | ⟨_, h2⟩
    · rw [stepR_some h4]; exact ⟨by show _ + 1 ≤ r; omega, by show _ + 1 ≤ k + 1; omega⟩
    · rw [stepR_none h2]; exact ⟨ih.1, by show (redR r f k).d ≤ k + 1; omega⟩
end Fus
namespace Fus
/-! sums -/
def sm (n : Nat) (f : Nat → F) : F := match n with | 0 => 0 | k + 1 => sm k f + f k
theorem sm_succ (n : Nat) (f : Nat → F) : sm (n + 1) f = sm n f + f n := rfl
theorem sm_congr {n : Nat} {f g : Nat → F} (h : ∀ i, i < n → f i = g i) : sm n f = sm n g := by
  induction n with
  | zero => rfl
  | succ n ih => rw [sm_succ, sm_succ, ih (fun i hi => h i (by omega)), h n (by omega)]
theorem sm_zero {n : Nat} {f : Nat → F} (h : ∀ i, i < n → f i = 0) : sm n f = 0 := by
  induction n with
  | zero => rfl
  | succ n ih => rw [sm_succ, ih (fun i hi => h i (by omega)), h n (by omega)]; rfl
theorem sm_add (n : Nat) (f g : Nat → F) : sm n (fun i => f i + g i) = sm n f + sm n g := by
  induction n with
  | zero => rfl
  | succ n ih => simp only [sm_succ, ih]; grind
theorem sm_sub (n : Nat) (f g : Nat → F) : sm n (fun i => f i - g i) = sm n f - sm n g := by
  induction n with
  | zero => rfl
  | succ n ih => simp only [sm_succ, ih]; grind
theorem sm_mul (n : Nat) (c : F) (f : Nat → F) : sm n (fun i => c * f i) = c * sm n f := by
  induction n with
  | zero => simp only [sm]; grind
  | succ n ih => simp only [sm_succ, ih]; grind
theorem sm_mul' (n : Nat) (c : F) (f : Nat → F) : sm n (fun i => f i * c) = sm n f * c := by
  induction n with
  | zero => simp only [sm]; grind
  | succ n ih => simp only [sm_succ, ih]; grind
theorem sm_comm (m n : Nat) (f : Nat → Nat → F) : sm m (fun i => sm n (fun j => f i j)) = sm n (fun j => sm m (fun i => f i j)) := by
  induction m with
  | zero => exact (sm_zero fun _ _ => rfl).symm
  | succ m ih => simp only [sm_succ, ih, ← sm_add]
theorem sm_one {n k : Nat} {f : Nat → F} (hk : k < n) (h : ∀ i, i < n → i ≠ k → f i = 0) : sm n f = f k := by
  induction n with
  | zero => omega
  | succ n ih =>
    by_cases e : k = n
    · subst e; rw [sm_succ, sm_zero (fun i hi => h i (by omega) (by omega))]; simp
    · rw [sm_succ, ih (by omega) (fun i hi hne => h i (by omega) hne), h n (by omega) (fun e' => e e'.symm)]; simp

/-! products of tables -/
def mm (n : Nat) (a b : Mx) : Mx := fun i j => sm n fun k => a i k * b k j
def one : Mx := fun i j => if i = j then 1 else 0
def tr (a : Mx) : Mx := fun i j => a j i
theorem mm_assoc (m n : Nat) (a b c : Mx) (i j : Nat) : mm n (mm m a b) c i j = mm m a (mm n b c) i j := by
  simp only [mm]
  have h1 : (sm n fun k => (sm m fun l => a i l * b l k) * c k j) = sm n fun k => sm m fun l => a i l * b l k * c k j := sm_congr fun k _ => (sm_mul' _ _ _).symm
  have h2 : (sm m fun l => a i l * sm n fun k => b l k * c k j) = sm m fun l => sm n fun k => a i l * b l k * c k j := sm_congr fun l _ => by
    rw [← sm_mul]; exact sm_congr fun k _ => by grind
  rw [h1, h2, sm_comm]
theorem mm_tr (n : Nat) (a b : Mx) (i j : Nat) : mm n (tr b) (tr a) i j = tr (mm n a b) i j := by
  simp only [mm, tr]; exact sm_congr fun k _ => by grind
theorem one_mm {n : Nat} (a : Mx) {i : Nat} (j : Nat) (hi : i < n) : mm n one a i j = a i j := by
  simp only [mm, one]
  rw [sm_one hi (fun k _ hne => by rw [if_neg (fun e => hne e.symm)]; grind)]
  simp only [if_true]; grind
theorem mm_one {n : Nat} (a : Mx) (i : Nat) {j : Nat} (hj : j < n) : mm n a one i j = a i j := by
  simp only [mm, one]
  rw [sm_one hj (fun k _ hne => by rw [if_neg hne]; grind)]
  simp only [if_true]; grind
theorem mm_congr {n : Nat} {a a' b b' : Mx} {i j : Nat} (h : ∀ k, k < n → a i k = a' i k) (h' : ∀ k, k < n → b k j = b' k j) : mm n a b i j = mm n a' b' i j :=
  sm_congr fun k hk => by rw [h k hk, h' k hk]
end Fus
namespace Fus
/-! what reduced rows are, and what reduction keeps -/
/-- the rows f (r of them) are reduced in the first k columns, with d leading ones in the columns p -/
structure Red (r k : Nat) (f : Mx) (d : Nat) (p : Nat → Nat) : Prop where
  le : d ≤ r
  lt : ∀ i, i < d → p i < k
  inc : ∀ i j, i < j → j < d → p i < p j
  col : ∀ i a, i < d → a < r → f a (p i) = if a = i then 1 else 0
  left : ∀ i j, i < d → j < p i → f i j = 0
  rest : ∀ i j, d ≤ i → i < r → j < k → f i j = 0

theorem red_start (r : Nat) (f : Mx) : Red r 0 f 0 id :=
  ⟨Nat.zero_le _, fun i h => by omega, fun i j _ h => by omega, fun i a h => by omega, fun i j h => by omega, fun i j _ _ h => by omega⟩
theorem red_none {r k d : Nat} {f : Mx} {p : Nat → Nat} (h : Red r k f d p) (hz : ∀ i, d ≤ i → i < r → f i k = 0) : Red r (k + 1) f d p :=
  ⟨h.le, fun i hi => by have := h.lt i hi; omega, h.inc, h.col, h.left, fun i j h1 h2 h3 => by
    by_cases e : j = k
    · subst e; exact hz i h1 h2
    · exact h.rest i j h1 h2 (by omega)⟩
theorem red_some {r k d n : Nat} {f : Mx} {p : Nat → Nat} (h : Red r k f d p) (hn : d + n < r) (hne : f (d + n) k ≠ 0) :
    Red r (k + 1) (clearR (scaleR (swapR f d (d + n)) d (finv (f (d + n) k))) d k) (d + 1) (fun i => if i = d then k else p i) := by
  have hinv := mul_finv hne
  generalize finv (f (d + n) k) = c at hinv
  -- the row of the lead
  have hd : ∀ j, scaleR (swapR f d (d + n)) d c d j = f (d + n) j * c := fun j => by simp [scaleR, swapR]
  have hdk : ∀ j, j < k → scaleR (swapR f d (d + n)) d c d j = 0 := fun j hj => by rw [hd, h.rest (d + n) j (by omega) hn hj]; grind
  have hdd : scaleR (swapR f d (d + n)) d c d k = 1 := by rw [hd]; exact hinv
  -- rows above stay in the first columns
  have hlow : ∀ a j, a ≠ d → j < k → clearR (scaleR (swapR f d (d + n)) d c) d k a j = if a = d + n then f d j else f a j := by
    intro a j ha hj
    have e : clearR (scaleR (swapR f d (d + n)) d c) d k a j = scaleR (swapR f d (d + n)) d c a j - scaleR (swapR f d (d + n)) d c a k * scaleR (swapR f d (d + n)) d c d j := by simp only [clearR]; rw [if_neg ha]
    rw [e, hdk j hj]
    have e2 : scaleR (swapR f d (d + n)) d c a j = if a = d + n then f d j else f a j := by simp only [scaleR]; rw [if_neg ha]; simp only [swapR]; rw [if_neg ha]
    rw [e2]; grind
  have hself : ∀ j, clearR (scaleR (swapR f d (d + n)) d c) d k d j = scaleR (swapR f d (d + n)) d c d j := fun j => by simp [clearR]
  have hcol : ∀ a, a ≠ d → clearR (scaleR (swapR f d (d + n)) d c) d k a k = 0 := fun a ha => by
    have e : clearR (scaleR (swapR f d (d + n)) d c) d k a k = scaleR (swapR f d (d + n)) d c a k - scaleR (swapR f d (d + n)) d c a k * scaleR (swapR f d (d + n)) d c d k := by simp only [clearR]; rw [if_neg ha]
    rw [e, hdd]; grind
  refine ⟨by omega, ?_, ?_, ?_, ?_, ?_⟩
  · intro i hi
    by_cases e : i = d
    · simp [e]
    · simp only [if_neg e]; have := h.lt i (by omega); omega
  · intro i j hij hj
    have e1 : i ≠ d := by omega
    simp only [if_neg e1]
    by_cases e2 : j = d
    · simp only [if_pos e2]; exact h.lt i (by omega)
    · simp only [if_neg e2]; exact h.inc i j hij (by omega)
  · intro i a hi ha
    by_cases e : i = d
    · subst e
      simp only [if_true]
      by_cases e2 : a = i
      · subst e2; rw [hself, hdd, if_pos rfl]
      · rw [hcol a e2, if_neg e2]
    · simp only [if_neg e]
      have hp := h.lt i (by omega)
      by_cases e2 : a = d
      · subst e2; rw [hself, hdk _ hp, if_neg (fun e' => e e'.symm)]
      · rw [hlow a _ e2 hp]
        by_cases e3 : a = d + n
        · rw [if_pos e3, h.col i d (by omega) (by omega), if_neg (fun e' => e e'.symm), if_neg (by omega)]
        · rw [if_neg e3, h.col i a (by omega) ha]
  · intro i j hi hj
    by_cases e : i = d
    · subst e; simp only [if_true] at hj; rw [hself, hdk j hj]
    · simp only [if_neg e] at hj
      have hp := h.lt i (by omega)
      rw [hlow i j e (by omega), if_neg (by omega)]
      exact h.left i j (by omega) hj
  · intro i j h1 h2 h3
    by_cases e : j = k
    · subst e; exact hcol i (by omega)
    · rw [hlow i j (by omega) (by omega)]
      split
      · exact h.rest d j (by omega) (by omega) (by omega)
      · exact h.rest i j (by omega) h2 (by omega)
theorem red_redR (r : Nat) (f : Mx) (k : Nat) : ∃ p, Red r k (redR r f k).f (redR r f k).d p := by
  induction k with
  | zero => exact ⟨id, red_start r f⟩
  | succ k ih =>
    obtain ⟨p, h⟩ := ih
    rw [redR_succ]
    rcases pivot_cases (redR r f k).f k (redR r f k).d r with ⟨n, h1, h2, _, h4⟩ | ⟨h1, h2⟩
    · rw [stepR_some h4]; exact ⟨_, red_some h h1 h2⟩
    · rw [stepR_none h2]; exact ⟨p, red_none h h1⟩

/-- the vector x is led to 0 by the rows f -/
def Ker (r c : Nat) (f : Mx) (x : Nat → F) : Prop := ∀ i, i < r → sm c (fun j => f i j * x j) = 0
theorem ker_swap {r c a b : Nat} {f : Mx} {x : Nat → F} (ha : a < r) (hb : b < r) : Ker r c (swapR f a b) x ↔ Ker r c f x := by
  have e : ∀ i, sm c (fun j => swapR f a b i j * x j) = sm c (fun j => f (if i = a then b else if i = b then a else i) j * x j) := fun i => sm_congr fun j _ => by
    simp only [swapR]
    by_cases e1 : i = a
    · simp only [if_pos e1]
    · by_cases e2 : i = b
      · simp only [if_neg e1, if_pos e2]
      · simp only [if_neg e1, if_neg e2]
  constructor
  · intro h i hi
    have := h (if i = a then b else if i = b then a else i) (by split; exact hb; split; exact ha; exact hi)
    rw [e] at this
    have e3 : (if (if i = a then b else if i = b then a else i) = a then b else if (if i = a then b else if i = b then a else i) = b then a else (if i = a then b else if i = b then a else i)) = i := by
      by_cases e1 : i = a
      · simp only [if_pos e1]; by_cases e2 : b = a
        · rw [if_pos e2]; omega
        · rw [if_neg e2]; simp [e1]
      · by_cases e2 : i = b
        · simp only [if_neg e1, if_pos e2]; simp [e2]
        · simp only [if_neg e1, if_neg e2]
    rw [e3] at this
    exact this
  · intro h i hi
    rw [e]
    exact h _ (by split; exact hb; split; exact ha; exact hi)
theorem ker_scale {r c d : Nat} {f : Mx} {x : Nat → F} {t : F} (ht : t ≠ 0) : Ker r c (scaleR f d t) x ↔ Ker r c f x := by
  have e : ∀ i, sm c (fun j => scaleR f d t i j * x j) = (if i = d then t else 1) * sm c (fun j => f i j * x j) := by
    intro i
    rw [← sm_mul]
    exact sm_congr fun j _ => by simp only [scaleR]; split <;> grind
  constructor
  · intro h i hi
    have := h i hi
    rw [e] at this
    rcases mul_zero_or this with h1 | h1
    · split at h1
      · exact absurd h1 ht
      · exact absurd h1.symm zero_ne_one
    · exact h1
  · intro h i hi; rw [e, h i hi]; grind
theorem ker_clear {r c d k : Nat} {f : Mx} {x : Nat → F} (hd : d < r) : Ker r c (clearR f d k) x ↔ Ker r c f x := by
  have e : ∀ i, i ≠ d → sm c (fun j => clearR f d k i j * x j) = sm c (fun j => f i j * x j) - f i k * sm c (fun j => f d j * x j) := by
    intro i hi
    rw [← sm_mul, ← sm_sub]
    exact sm_congr fun j _ => by simp only [clearR, if_neg hi]; grind
  have e0 : sm c (fun j => clearR f d k d j * x j) = sm c (fun j => f d j * x j) := sm_congr fun j _ => by simp [clearR]
  constructor
  · intro h i hi
    have hd' := h d hd
    rw [e0] at hd'
    by_cases e1 : i = d
    · rw [e1]; exact hd'
    · have := h i hi; rw [e i e1, hd'] at this; grind
  · intro h i hi
    by_cases e1 : i = d
    · rw [e1, e0]; exact h d hd
    · rw [e i e1, h i hi, h d hd]; grind
theorem ker_redR (r c : Nat) (f : Mx) (k : Nat) (x : Nat → F) : Ker r c (redR r f k).f x ↔ Ker r c f x := by
  induction k with
  | zero => exact Iff.rfl
  | succ k ih =>
    rw [redR_succ]
    rcases pivot_cases (redR r f k).f k (redR r f k).d r with ⟨n, h1, h2, _, h4⟩ | ⟨h1, h2⟩
    · rw [stepR_some h4]
      exact ((ker_clear (by omega)).trans ((ker_scale (finv_ne h2)).trans (ker_swap (by omega) h1))).trans ih
    · rw [stepR_none h2]; exact ih
/-- what is closed under combinations keeps holding of rows that are reduced -/
theorem rows_redR {P : (Nat → F) → Prop} (hP : ∀ u v (a b : F), P u → P v → P fun j => a * u j + b * v j) {r : Nat} {f : Mx} (h : ∀ i, i < r → P (f i)) (k : Nat) : ∀ i, i < r → P ((redR r f k).f i) := by
  have one : ∀ u v (a b : F) (w : Nat → F), P u → P v → (∀ j, w j = a * u j + b * v j) → P w := fun u v a b w hu hv e => by
    rw [show w = _ from funext e]; exact hP u v a b hu hv
  induction k with
  | zero => exact h
  | succ k ih =>
    rw [redR_succ]
    rcases pivot_cases (redR r f k).f k (redR r f k).d r with ⟨n, h1, h2, _, h4⟩ | ⟨h1, h2⟩
    · rw [stepR_some h4]
      generalize hg : (redR r f k).f = g at *
      generalize hd : (redR r f k).d = d at *
      have s1 : ∀ i, i < r → P (swapR g d (d + n) i) := by
        intro i hi
        by_cases e1 : i = d
        · refine one _ _ 1 0 _ (ih (d + n) h1) (ih i hi) fun j => ?_; simp only [swapR, if_pos e1]; grind
        · by_cases e2 : i = d + n
          · refine one _ _ 1 0 _ (ih d (by omega)) (ih i hi) fun j => ?_; simp only [swapR, if_neg e1, if_pos e2]; grind
          · refine one _ _ 1 0 _ (ih i hi) (ih i hi) fun j => ?_; simp only [swapR, if_neg e1, if_neg e2]; grind
      have s2 : ∀ i, i < r → P (scaleR (swapR g d (d + n)) d (finv (g (d + n) k)) i) := by
        intro i hi
        by_cases e1 : i = d
        · refine one _ _ (finv (g (d + n) k)) 0 _ (s1 i hi) (s1 i hi) fun j => ?_; simp only [scaleR, if_pos e1]; grind
        · refine one _ _ 1 0 _ (s1 i hi) (s1 i hi) fun j => ?_; simp only [scaleR, if_neg e1]; grind
      intro i hi
      by_cases e1 : i = d
      · refine one _ _ 1 0 _ (s2 i hi) (s2 i hi) fun j => ?_; simp only [clearR, if_pos e1]; grind
      · refine one _ _ 1 (-(scaleR (swapR g d (d + n)) d (finv (g (d + n) k)) i k)) _ (s2 i hi) (s2 d (by omega)) fun j => ?_; simp only [clearR, if_neg e1]; grind
    · rw [stepR_none h2]; exact ih

/-! vectors in the kernel of reduced rows -/
/-- the vector that says how a column is made of the columns of leading ones before it -/
def fvec (f : Mx) (d : Nat) (p : Nat → Nat) (k : Nat) : Nat → F := fun j => (if j = k then 1 else 0) - sm d (fun i => if j = p i then f i k else 0)
theorem sm_pick {c q : Nat} (hq : q < c) (g : Nat → F) (v : F) : sm c (fun j => g j * (if j = q then v else 0)) = g q * v := by
  rw [sm_one hq (fun j _ hne => by rw [if_neg hne]; grind)]; simp
theorem fvec_row {r c d : Nat} {f : Mx} {p : Nat → Nat} (h : Red r c f d p) {k : Nat} (hk : k < c) (g : Nat → F) : sm c (fun j => g j * fvec f d p k j) = g k - sm d (fun i => g (p i) * f i k) := by
  have e : ∀ j, g j * fvec f d p k j = g j * (if j = k then 1 else 0) - sm d (fun i => g j * (if j = p i then f i k else 0)) := fun j => by rw [sm_mul]; simp only [fvec]; grind
  rw [sm_congr fun j _ => e j, sm_sub, sm_pick hk, sm_comm]
  rw [sm_congr (f := fun i => sm c fun j => g j * (if j = p i then f i k else 0)) (fun i hi => sm_pick (h.lt i hi) g (f i k))]
  grind
theorem fvec_ker {r c d : Nat} {f : Mx} {p : Nat → Nat} (h : Red r c f d p) {k : Nat} (hk : k < c) : Ker r c f (fvec f d p k) := by
  intro a ha
  rw [fvec_row h hk]
  by_cases hd : a < d
  · rw [sm_one hd (fun i hi hne => by rw [h.col i a hi ha, if_neg (fun e => hne e.symm)]; grind), h.col a a hd ha]
    simp only [if_true]; grind
  · rw [h.rest a k (by omega) ha hk, sm_zero (fun i hi => by rw [h.col i a hi ha, if_neg (by omega)]; grind)]; grind
/-- at and behind a column without a leading one -/
theorem fvec_at {d : Nat} {f : Mx} {p : Nat → Nat} {k : Nat} (hk : ∀ i, i < d → p i ≠ k) : fvec f d p k k = 1 := by
  simp only [fvec, if_true]
  rw [sm_zero (fun i hi => by rw [if_neg (fun e => hk i hi e.symm)])]; grind
theorem fvec_after {r c d : Nat} {f : Mx} {p : Nat → Nat} (h : Red r c f d p) {k j : Nat} (hj : k < j) : fvec f d p k j = 0 := by
  simp only [fvec]
  rw [if_neg (by omega), sm_zero (fun i hi => ?_)]
  · grind
  · by_cases e : j = p i
    · rw [if_pos e]; exact h.left i k hi (by omega)
    · rw [if_neg e]
theorem sm_split (n m : Nat) (f : Nat → F) : sm (n + m) f = sm n f + sm m (fun i => f (n + i)) := by
  induction m with
  | zero => show sm n f = sm n f + 0; grind
  | succ m ih => rw [← Nat.add_assoc, sm_succ, ih, sm_succ]; grind
/-- a column of which the kernel says that it is made of those before it has no leading one -/
theorem not_lead {r c d : Nat} {f : Mx} {p : Nat → Nat} (h : Red r c f d p) {x : Nat → F} (hx : Ker r c f x) {k : Nat} (h1 : x k = 1) (h2 : ∀ j, k < j → j < c → x j = 0) : ∀ i, i < d → p i ≠ k := by
  intro i hi e
  have hk := h.lt i hi
  have := hx i (by have := h.le; omega)
  rw [sm_one (k := k) (by omega) (fun j hj hne => ?_)] at this
  · rw [← e, h.col i i hi (by have := h.le; omega)] at this
    rw [e, h1] at this
    simp only [if_true] at this
    exact zero_ne_one (by grind)
  · by_cases e2 : j < k
    · rw [h.left i j hi (by omega)]; grind
    · rw [h2 j (by omega) hj]; grind
/-- increasing places are told by the set that they make -/
theorem places_eq {d e : Nat} {p q : Nat → Nat} (hp : ∀ i j, i < j → j < d → p i < p j) (hq : ∀ i j, i < j → j < e → q i < q j)
    (h1 : ∀ i, i < d → ∃ j, j < e ∧ q j = p i) (h2 : ∀ i, i < e → ∃ j, j < d ∧ p j = q i) : d = e ∧ ∀ i, i < d → p i = q i := by
  have mono : ∀ (d : Nat) (p : Nat → Nat), (∀ i j, i < j → j < d → p i < p j) → ∀ i j, i < d → j < d → p i < p j → i < j := by
    intro d p hp i j hi hj h
    rcases Nat.lt_trichotomy i j with h' | h' | h'
    · exact h'
    · subst h'; omega
    · have := hp j i h' hi; omega
  have key : ∀ n, (∀ i, i < n → i < d → i < e ∧ p i = q i) := by
    intro n
    induction n with
    | zero => intro i h; omega
    | succ n ih =>
      intro i hi hd
      by_cases e1 : i < n
      · exact ih i e1 hd
      · have hin : i = n := by omega
        subst hin
        obtain ⟨j, hj, ej⟩ := h1 i hd
        -- j is not below i
        have hji : i ≤ j := by
          rcases Nat.lt_or_ge j i with h | h
          · have := ih j h (by omega); have := hp j i h hd; omega
          · exact h
        have hie : i < e := by omega
        obtain ⟨l, hl, el⟩ := h2 i hie
        have hli : i ≤ l := by
          rcases Nat.lt_or_ge l i with h | h
          · have := ih l h (by omega); have := hq l i h hie; omega
          · exact h
        refine ⟨hie, ?_⟩
        have a1 : q i ≤ q j := by rcases Nat.lt_or_ge i j with h | h; exact Nat.le_of_lt (hq i j h hj); have : i = j := by omega
                                  rw [this]; exact Nat.le_refl _
        have a2 : p i ≤ p l := by rcases Nat.lt_or_ge i l with h | h; exact Nat.le_of_lt (hp i l h hl); have : i = l := by omega
                                  rw [this]; exact Nat.le_refl _
        omega
  have hde : d ≤ e := by
    rcases Nat.lt_or_ge e d with h | h
    · have := key (e + 1) e (by omega) h; omega
    · exact h
  have hed : e ≤ d := by
    rcases Nat.lt_or_ge d e with h | h
    · obtain ⟨j, hj, ej⟩ := h2 d h
      have := key (j + 1) j (by omega) hj
      have := hq j d (by omega) h
      omega
    · exact h
  exact ⟨by omega, fun i hi => (key (i + 1) i (by omega) hi).2⟩
/-- reduced rows are told by their kernel -/
theorem red_unique {r r' c d e : Nat} {f g : Mx} {p q : Nat → Nat} (hf : Red r c f d p) (hg : Red r' c g e q) (hk : ∀ x, Ker r c f x ↔ Ker r' c g x) :
    d = e ∧ (∀ i, i < d → p i = q i) ∧ ∀ i j, i < d → j < c → f i j = g i j := by
  have side : ∀ {r r' d e : Nat} {f g : Mx} {p q : Nat → Nat}, Red r c f d p → Red r' c g e q → (∀ x, Ker r c f x ↔ Ker r' c g x) → ∀ i, i < e → ∃ j, j < d ∧ p j = q i := by
    intro r r' d e f g p q hf hg hk i hi
    by_cases h : ∃ j, j < d ∧ p j = q i
    · exact h
    · exfalso
      have hn : ∀ j, j < d → p j ≠ q i := fun j hj e => h ⟨j, hj, e⟩
      have h1 := fvec_ker hf (hg.lt i hi)
      exact not_lead hg ((hk _).1 h1) (fvec_at hn) (fun j hj _ => fvec_after hf hj) i hi rfl
  obtain ⟨h1, h2⟩ := places_eq hf.inc hg.inc (side hg hf fun x => (hk x).symm) (side hf hg hk)
  refine ⟨h1, h2, fun i j hi hj => ?_⟩
  have h3 := (hk _).1 (fvec_ker hf hj) i (by have := hg.le; omega)
  rw [fvec_row hf hj, sm_one hi (fun a ha hne => by rw [h2 a ha, hg.col a i (by omega) (by have := hg.le; omega), if_neg (fun e => hne e.symm)]; grind), h2 i hi, hg.col i i (by omega) (by have := hg.le; omega)] at h3
  simp only [if_true] at h3
  grind
/-- fewer rows than columns: a column without a leading one -/
theorem free_column {r c d : Nat} {f : Mx} {p : Nat → Nat} (h : Red r c f d p) (hd : d < c) : ∃ k, k < c ∧ ∀ i, i < d → p i ≠ k := by
  have ge : ∀ i, i < d → i ≤ p i := by
    intro i
    induction i with
    | zero => intro _; omega
    | succ i ih => intro hi; have := ih (by omega); have := h.inc i (i + 1) (by omega) hi; omega
  by_cases hall : ∀ i, i < d → p i = i
  · exact ⟨d, hd, fun i hi => by rw [hall i hi]; omega⟩
  · rcases leastR_cases (fun i => p i != i) d with ⟨k, h1, h2, h3, _⟩ | ⟨h1, _⟩
    · refine ⟨k, by omega, fun i hi e => ?_⟩
      have hk : p k ≠ k := by simpa using h2
      have hpk := ge k h1
      rcases Nat.lt_trichotomy i k with h' | h' | h'
      · have : p i = i := by simpa using h3 i h'
        omega
      · subst h'; exact hk e
      · have := h.inc k i h' hi; omega
    · exact absurd (fun i hi => by simpa using h1 i hi) hall
theorem ker_nonzero {r c : Nat} (f : Mx) (h : r < c) : ∃ x, Ker r c f x ∧ ∃ j, j < c ∧ x j ≠ 0 := by
  obtain ⟨p, hp⟩ := red_redR r f c
  obtain ⟨k, hk, hn⟩ := free_column hp (by have := (redR_d r f c).1; omega)
  exact ⟨_, (ker_redR r c f c _).1 (fvec_ker hp hk), k, hk, by rw [fvec_at hn]; exact fun e => zero_ne_one e.symm⟩
end Fus
namespace Fus
/-! determinants: by the last column, by rows, by reduction -/
def skip (i a : Nat) : Nat := if a < i then a else a + 1
def sgn (k : Nat) : F := if k % 2 = 0 then 1 else -1
def minor (f : Mx) (i : Nat) : Mx := fun a b => f (skip i a) b
def D : Nat → Mx → F
  | 0, _ => 1
  | n + 1, f => sm (n + 1) fun i => sgn (n + i) * f i n * D n (minor f i)
theorem D_succ (n : Nat) (f : Mx) : D (n + 1) f = sm (n + 1) fun i => sgn (n + i) * f i n * D n (minor f i) := rfl
theorem skip_lt {i a n : Nat} (h : a < n) : skip i a < n + 1 := by unfold skip; split <;> omega
theorem skip_ne (i a : Nat) : skip i a ≠ i := by unfold skip; split <;> omega
theorem D_congr {n : Nat} : ∀ {f g : Mx}, (∀ i j, i < n → j < n → f i j = g i j) → D n f = D n g := by
  induction n with
  | zero => intro f g _; rfl
  | succ n ih =>
    intro f g h
    rw [D_succ, D_succ]
    exact sm_congr fun i hi => by
      rw [h i n hi (by omega), ih (f := minor f i) (g := minor g i) fun a b ha hb => h _ _ (skip_lt ha) (by omega)]
theorem setR_self (f : Mx) (a : Nat) : setR f a (f a) = f := by funext i j; simp only [setR]; split <;> simp [*]
theorem setR_at (f : Mx) (a : Nat) (v : Nat → F) (j : Nat) : setR f a v a j = v j := by simp [setR]
theorem setR_ne {f : Mx} {a i : Nat} {v : Nat → F} (h : i ≠ a) (j : Nat) : setR f a v i j = f i j := by simp [setR, h]
theorem minor_set_same (f : Mx) (a : Nat) (v : Nat → F) : minor (setR f a v) a = minor f a := by
  funext x y; exact setR_ne (skip_ne a x) y
/-- where a row lies behind another one is struck -/
def back (i a : Nat) : Nat := if a < i then a else a - 1
theorem minor_set {f : Mx} {a i : Nat} {v : Nat → F} (h : i ≠ a) : minor (setR f a v) i = setR (minor f i) (back i a) v := by
  funext x y
  simp only [minor, setR]
  have : skip i x = a ↔ x = back i a := by unfold skip back; split <;> split <;> omega
  by_cases e : skip i x = a
  · rw [if_pos e, if_pos (this.1 e)]
  · rw [if_neg e, if_neg (fun e' => e (this.2 e'))]
theorem back_lt {i a n : Nat} (h : i ≠ a) (hi : i < n + 1) (ha : a < n + 1) : back i a < n := by unfold back; split <;> omega
/-- determinants are linear in each row -/
theorem D_lin {n : Nat} : ∀ (f : Mx) {a : Nat} (_ : a < n) (u v : Nat → F) (x y : F), D n (setR f a fun j => x * u j + y * v j) = x * D n (setR f a u) + y * D n (setR f a v) := by
  induction n with
  | zero => intro f a h; omega
  | succ n ih =>
    intro f a ha u v x y
    rw [D_succ, D_succ, D_succ, ← sm_mul, ← sm_mul, ← sm_add]
    refine sm_congr fun i hi => ?_
    by_cases e : i = a
    · subst e
      rw [minor_set_same, minor_set_same, minor_set_same, setR_at, setR_at, setR_at]; grind
    · rw [minor_set e, minor_set e, minor_set e, setR_ne e, setR_ne e, setR_ne e, ih _ (back_lt e hi ha)]; grind
theorem sm_two {n k l : Nat} {f : Nat → F} (hk : k < n) (hl : l < n) (hne : k ≠ l) (h : ∀ i, i < n → i ≠ k → i ≠ l → f i = 0) : sm n f = f k + f l := by
  have e : ∀ i, f i = (if i = k then f k else 0) + (if i = k then 0 else f i) := fun i => by split <;> simp_all <;> grind
  rw [sm_congr fun i _ => e i, sm_add, sm_one (k := k) hk (fun i _ hi => by rw [if_neg hi]), if_pos rfl, sm_one (k := l) hl (fun i hi hil => by
    split
    · rfl
    · rename_i hik; exact h i hi hik hil), if_neg (fun e => hne e.symm)]
theorem D_adj {n : Nat} : ∀ (f : Mx) {a : Nat} (_ : a + 1 < n) (_ : ∀ j, j < n → f a j = f (a + 1) j), D n f = 0 := by
  induction n with
  | zero => intro f a h; omega
  | succ n ih =>
    intro f a ha he
    rw [D_succ, sm_two (k := a) (l := a + 1) (by omega) ha (by omega)]
    · have e1 : D n (minor f a) = D n (minor f (a + 1)) := D_congr fun i j hi hj => by
        simp only [minor]
        by_cases h1 : i < a
        · rw [show skip a i = i from by simp [skip, h1], show skip (a + 1) i = i from by simp [skip]; omega]
        · by_cases h2 : i = a
          · subst h2; rw [show skip i i = i + 1 from by simp [skip], show skip (i + 1) i = i from by simp [skip]]; exact (he j (by omega)).symm
          · rw [show skip a i = i + 1 from by simp [skip]; omega, show skip (a + 1) i = i + 1 from by simp [skip]; omega]
      rw [he n (by omega), e1]
      have e2 : sgn (n + a) = - sgn (n + (a + 1)) := by
        unfold sgn
        by_cases h : (n + a) % 2 = 0
        · rw [if_pos h, if_neg (by omega)]; grind
        · rw [if_neg h, if_pos (by omega)]
      rw [e2]; grind
    · intro i hi h1 h2
      have : D n (minor f i) = 0 := by
        rcases Nat.lt_or_ge i a with h | h
        · refine ih _ (a := a - 1) (by omega) fun j hj => ?_
          simp only [minor]
          rw [show skip i (a - 1) = a from by unfold skip; rw [if_neg (by omega)]; omega, show skip i (a - 1 + 1) = a + 1 from by unfold skip; rw [if_neg (by omega)]; omega]
          exact he j (by omega)
        · refine ih _ (a := a) (by omega) fun j hj => ?_
          simp only [minor]
          rw [show skip i a = a from by unfold skip; rw [if_pos (by omega)], show skip i (a + 1) = a + 1 from by unfold skip; rw [if_pos (by omega)]]
          exact he j (by omega)
      rw [this]; grind

/-- what determinants are told by -/
structure Alt (n : Nat) (G : Mx → F) : Prop where
  congr : ∀ f g : Mx, (∀ i j, i < n → j < n → f i j = g i j) → G f = G g
  lin : ∀ (f : Mx) (a : Nat), a < n → ∀ (u v : Nat → F) (x y : F), G (setR f a fun j => x * u j + y * v j) = x * G (setR f a u) + y * G (setR f a v)
  same : ∀ (f : Mx) (a b : Nat), a < n → b < n → a ≠ b → (∀ j, j < n → f a j = f b j) → G f = 0

/-- two rows exchanged, for what vanishes at two equal rows -/
theorem swap_of {n : Nat} {G : Mx → F} (_ : ∀ f g : Mx, (∀ i j, i < n → j < n → f i j = g i j) → G f = G g)
    (hl : ∀ (f : Mx) (a : Nat), a < n → ∀ (u v : Nat → F) (x y : F), G (setR f a fun j => x * u j + y * v j) = x * G (setR f a u) + y * G (setR f a v))
    {a b : Nat} (ha : a < n) (hb : b < n) (hab : a ≠ b) (hs : ∀ f : Mx, (∀ j, j < n → f a j = f b j) → G f = 0) (f : Mx) : G (swapR f a b) = - G f := by
  have h0 : ∀ u v, G (setR (setR f a u) b v) = - G (setR (setR f a v) b u) := by
    intro u v
    have z : ∀ w, G (setR (setR f a w) b w) = 0 := fun w => hs _ fun j _ => by rw [setR_ne hab, setR_at, setR_at]
    have h1 := z fun j => 1 * u j + 1 * v j
    rw [hl _ b hb] at h1
    have comm : ∀ s t : Nat → F, setR (setR f a s) b t = setR (setR f b t) a s := fun s t => by
      funext i j; simp only [setR]; by_cases e1 : i = a <;> by_cases e2 : i = b <;> simp [e1, e2]
      · omega
      · intro e; exact absurd e hab
      · intro e; exact absurd e.symm hab
    rw [comm, comm, hl _ a ha, hl _ a ha, ← comm, ← comm, ← comm, ← comm, z u, z v] at h1
    grind
  have e1 : swapR f a b = setR (setR f a (f b)) b (f a) := by
    funext i j; simp only [swapR, setR]
    by_cases e1 : i = a
    · rw [if_pos e1, if_pos e1]; rw [if_neg (by omega)]
    · rw [if_neg e1, if_neg e1]
  have e2 : setR (setR f a (f a)) b (f b) = f := by rw [setR_self, setR_self]
  rw [e1, h0, e2]

theorem D_alt (n : Nat) : Alt n (D n) := by
  refine ⟨fun f g h => D_congr h, fun f a ha u v x y => D_lin f ha u v x y, ?_⟩
  have main : ∀ k, ∀ (f : Mx) (a : Nat), a + k + 1 < n → (∀ j, j < n → f a j = f (a + k + 1) j) → D n f = 0 := by
    intro k
    induction k with
    | zero => intro f a ha h; exact D_adj f ha h
    | succ k ih =>
      intro f a ha h
      have hs := swap_of (n := n) (G := D n) (fun f g h => D_congr h) (fun f a ha u v x y => D_lin f ha u v x y) (a := a + k + 1) (b := a + (k + 1) + 1) (by omega) ha (by omega)
        (fun f h => D_adj f (by omega) h) f
      have hz := ih (swapR f (a + k + 1) (a + (k + 1) + 1)) a (by omega) fun j hj => by
        simp only [swapR]; rw [if_neg (by omega), if_neg (by omega), if_true]; exact h j hj
      rw [hz] at hs; grind
  intro f a b ha hb hne h
  rcases Nat.lt_or_ge a b with hlt | hge
  · have e : a + (b - a - 1) + 1 = b := by omega
    exact main (b - a - 1) f a (by omega) (by rw [e]; exact h)
  · have e : b + (a - b - 1) + 1 = a := by omega
    exact main (a - b - 1) f b (by omega) (by rw [e]; exact fun j hj => (h j hj).symm)

section
variable {n : Nat} {G : Mx → F}
theorem Alt.swap (h : Alt n G) {a b : Nat} (ha : a < n) (hb : b < n) (hab : a ≠ b) (f : Mx) : G (swapR f a b) = - G f :=
  swap_of h.congr h.lin ha hb hab (fun f => h.same f a b ha hb hab) f
theorem Alt.add (h : Alt n G) {a b : Nat} (ha : a < n) (hb : b < n) (hab : a ≠ b) (f : Mx) (c : F) : G (setR f a fun j => f a j + c * f b j) = G f := by
  have e : (fun j => f a j + c * f b j) = fun j => 1 * f a j + c * f b j := by funext j; grind
  rw [e, h.lin f a ha, setR_self, h.same (setR f a (f b)) a b ha hb hab fun j _ => by rw [setR_at, setR_ne (fun e => hab e.symm)]]
  grind
theorem Alt.scale (h : Alt n G) {a : Nat} (ha : a < n) (f : Mx) (c : F) : G (scaleR f a c) = c * G f := by
  have e : scaleR f a c = setR f a fun j => c * f a j + 0 * f a j := by
    funext i j; simp only [scaleR, setR]; split
    · rename_i e; rw [e]; grind
    · rfl
  rw [e, h.lin f a ha, setR_self]; grind
theorem Alt.zero (h : Alt n G) {a : Nat} (ha : a < n) {f : Mx} (hz : ∀ j, j < n → f a j = 0) : G f = 0 := by
  have e : G f = G (setR f a fun j => 0 * f a j + 0 * f a j) := h.congr _ _ fun i j _ hj => by
    simp only [setR]; split
    · rename_i e; rw [e, hz j hj]; grind
    · rfl
  rw [e, h.lin f a ha]; grind
theorem Alt.clear (h : Alt n G) {d : Nat} (hd : d < n) (k : Nat) (f : Mx) : G (clearR f d k) = G f := by
  have main : ∀ m, m ≤ n → G (fun i j => if i < m then clearR f d k i j else f i j) = G f := by
    intro m
    induction m with
    | zero => intro _; exact h.congr _ _ fun i j _ _ => by simp
    | succ m ih =>
      intro hm
      rw [← ih (by omega)]
      by_cases e : m = d
      · refine h.congr _ _ fun i j _ _ => ?_
        by_cases e1 : i < m
        · simp only [if_pos e1, if_pos (show i < m + 1 from by omega)]
        · by_cases e2 : i = m
          · simp only [if_neg e1, if_pos (show i < m + 1 from by omega)]; simp [clearR, e2, e]
          · simp only [if_neg e1, if_neg (show ¬ i < m + 1 from by omega)]
      · have := h.add (a := m) (b := d) (by omega) hd e (fun i j => if i < m then clearR f d k i j else f i j) (-(f m k))
        rw [← this]
        refine h.congr _ _ fun i j _ _ => ?_
        simp only [setR]
        have hdj : (if d < m then clearR f d k d j else f d j) = f d j := by split <;> simp [clearR]
        by_cases e2 : i = m
        · subst e2
          rw [if_pos (by omega), if_pos rfl, if_neg (by omega), hdj]
          simp only [clearR, if_neg e]; grind
        · rw [if_neg e2]
          by_cases e1 : i < m
          · rw [if_pos (by omega), if_pos e1]
          · rw [if_neg (by omega), if_neg e1]
  rw [← main n (Nat.le_refl _)]
  exact h.congr _ _ fun i j hi _ => by rw [if_pos hi]
/-- a step of the reduction, for whatever is told like a determinant -/
theorem Alt.steps (h : Alt n G) (f : Mx) : ∀ k, ((redR n f k).d = k → G f = (redR n f k).det * G (redR n f k).f) ∧ ((redR n f k).d < k → (redR n f k).det = 0) ∧ ∃ c, G f = c * G (redR n f k).f := by
  intro k
  induction k with
  | zero => exact ⟨fun _ => by show G f = 1 * G f; grind, fun h => by simp [redR] at h, 1, by show G f = 1 * G f; grind⟩
  | succ k ih =>
    obtain ⟨i1, i2, c, i3⟩ := ih
    have hle := (redR_d n f k).2
    rw [redR_succ]
    rcases pivot_cases (redR n f k).f k (redR n f k).d n with ⟨m, h1, h2, _, h4⟩ | ⟨h1, h2⟩
    · rw [stepR_some h4]
      generalize (redR n f k).f = g at *
      generalize (redR n f k).d = d at *
      generalize (redR n f k).det = t at *
      have hinv := mul_finv h2
      generalize finv (g (d + m) k) = v at *
      have key : G g = (if m = 0 then 1 else -1) * g (d + m) k * G (clearR (scaleR (swapR g d (d + m)) d v) d k) := by
        rw [h.clear (by omega), h.scale (by omega)]
        by_cases e : m = 0
        · subst e
          have e2 : swapR g d (d + 0) = g := by funext i j; simp only [swapR]; split <;> simp_all
          rw [e2, if_pos rfl]; grind
        · rw [h.swap (by omega) h1 (by omega), if_neg e]; grind
      refine ⟨fun hd => ?_, fun hd => ?_, c * ((if m = 0 then 1 else -1) * g (d + m) k), by rw [i3, key]; grind⟩
      · have hd' : d + 1 = k + 1 := hd
        show G f = ((if m = 0 then t else -t) * g (d + m) k) * _
        rw [i1 (by omega), key]; split <;> grind
      · have hd' : d + 1 < k + 1 := hd
        show (if m = 0 then t else -t) * g (d + m) k = 0
        rw [i2 (by omega)]; split <;> grind
    · rw [stepR_none h2]
      exact ⟨fun hd => by have hd' : (redR n f k).d = k + 1 := hd; omega, fun _ => rfl, c, i3⟩
end
theorem Red.eq_one {n : Nat} {f : Mx} {p : Nat → Nat} (h : Red n n f n p) : ∀ i j, i < n → j < n → f i j = one i j := by
  have ge : ∀ i, i < n → i ≤ p i := by
    intro i
    induction i with
    | zero => intro _; omega
    | succ i ih => intro hi; have := ih (by omega); have := h.inc i (i + 1) (by omega) hi; omega
  have le : ∀ m i, i + m + 1 = n → p i ≤ i := by
    intro m
    induction m with
    | zero => intro i hi; have := h.lt i (by omega); omega
    | succ m ih => intro i hi; have := ih (i + 1) (by omega); have := h.inc i (i + 1) (by omega) (by omega); omega
  intro i j hi hj
  have e : p j = j := by have := ge j hj; have := le (n - j - 1) j (by omega); omega
  have := h.col j i hj hi
  rw [e] at this
  exact this
/-- the determinant by reduction, for whatever is told like one -/
theorem Alt.det {n : Nat} {G : Mx → F} (h : Alt n G) (f : Mx) : G f = (redR n f n).det * G one := by
  obtain ⟨h1, h2, c, h3⟩ := h.steps f n
  obtain ⟨p, hp⟩ := red_redR n f n
  rcases Nat.lt_or_ge (redR n f n).d n with hd | hd
  · rw [h2 hd, h3, h.zero (a := (redR n f n).d) hd fun j hj => hp.rest _ j (Nat.le_refl _) hd hj]; grind
  · have hd' : (redR n f n).d = n := by have := (redR_d n f n).2; omega
    rw [hd'] at hp
    rw [h1 hd', h.congr _ _ hp.eq_one]
theorem D_one (n : Nat) : D n one = 1 := by
  induction n with
  | zero => rfl
  | succ n ih =>
    rw [D_succ, sm_one (k := n) (by omega) (fun i hi hne => by simp only [one]; rw [if_neg hne]; grind)]
    have : D n (minor one n) = D n one := D_congr fun i j hi _ => by simp only [minor]; rw [show skip n i = i from by simp [skip, hi]]
    rw [this, ih]
    simp only [one, if_true, sgn]; rw [if_pos (by omega)]; grind
theorem D_red (n : Nat) (f : Mx) : D n f = (redR n f n).det := by rw [(D_alt n).det f, D_one]; grind
theorem Alt.eq {n : Nat} {G : Mx → F} (h : Alt n G) (f : Mx) : G f = D n f * G one := by rw [D_red]; exact h.det f
end Fus
namespace Fus
/-! determinants of products and of tables turned over; determinants and kernels -/
theorem alt_mul (n : Nat) (B : Mx) : Alt n fun A => D n (mm n A B) := by
  refine ⟨fun f g h => D_congr fun i j hi _ => mm_congr (fun k hk => h i k hi hk) (fun _ _ => rfl), fun f a ha u v x y => ?_, fun f a b ha hb hne h => ?_⟩
  · have e : ∀ w : Nat → F, mm n (setR f a w) B = setR (mm n f B) a (fun j => sm n fun k => w k * B k j) := fun w => by
      funext i j; simp only [mm, setR]; split <;> rfl
    simp only [e]
    rw [← (D_alt n).lin _ a ha]
    congr 2
    funext j
    rw [← sm_mul, ← sm_mul, ← sm_add]
    exact sm_congr fun k _ => by grind
  · exact (D_alt n).same _ a b ha hb hne fun j _ => sm_congr fun k hk => by rw [h k hk]
theorem D_mul (n : Nat) (A B : Mx) : D n (mm n A B) = D n A * D n B := by
  rw [(alt_mul n B).eq A]
  show _ * D n (mm n one B) = _
  rw [D_congr (f := mm n one B) (g := B) fun i j hi _ => one_mm B j hi]

theorem ker_zero_of_one {n : Nat} {f : Mx} {x : Nat → F} (h : ∀ i j, i < n → j < n → f i j = one i j) (hx : Ker n n f x) : ∀ j, j < n → x j = 0 := by
  intro j hj
  have := hx j hj
  rw [sm_one hj (fun i hi hne => by rw [h j i hj hi]; simp only [one]; rw [if_neg (fun e => hne e.symm)]; grind), h j j hj hj] at this
  simp only [one, if_true] at this
  grind
theorem red_det_ne (n : Nat) (f : Mx) : ∀ k, (redR n f k).d = k → (redR n f k).det ≠ 0 := by
  intro k
  induction k with
  | zero => intro _ e; exact zero_ne_one e.symm
  | succ k ih =>
    have hle := (redR_d n f k).2
    rw [redR_succ]
    rcases pivot_cases (redR n f k).f k (redR n f k).d n with ⟨m, h1, h2, _, h4⟩ | ⟨h1, h2⟩
    · rw [stepR_some h4]
      intro hd e
      have hd' : (redR n f k).d + 1 = k + 1 := hd
      have e' : (if m = 0 then (redR n f k).det else -(redR n f k).det) * (redR n f k).f ((redR n f k).d + m) k = 0 := e
      have hn := ih (by omega)
      rcases mul_zero_or e' with h | h
      · split at h
        · exact hn h
        · exact hn (by grind)
      · exact h2 h
    · rw [stepR_none h2]
      intro hd
      have hd' : (redR n f k).d = k + 1 := hd
      omega
theorem D_full {n : Nat} {f : Mx} : D n f ≠ 0 ↔ (redR n f n).d = n := by
  rw [D_red]
  constructor
  · intro h
    rcases Nat.lt_or_ge (redR n f n).d n with hd | hd
    · exact absurd (((D_alt n).steps f n).2.1 hd) h
    · have := (redR_d n f n).2; omega
  · exact red_det_ne n f n
theorem D_ker {n : Nat} {f : Mx} : D n f = 0 ↔ ∃ x, Ker n n f x ∧ ∃ j, j < n ∧ x j ≠ 0 := by
  obtain ⟨p, hp⟩ := red_redR n f n
  constructor
  · intro h
    have hd : (redR n f n).d < n := by
      rcases Nat.lt_or_ge (redR n f n).d n with hd | hd
      · exact hd
      · exact absurd h (D_full.2 (by have := (redR_d n f n).2; omega))
    obtain ⟨k, hk, hn⟩ := free_column hp hd
    exact ⟨_, (ker_redR n n f n _).1 (fvec_ker hp hk), k, hk, by rw [fvec_at hn]; exact fun e => zero_ne_one e.symm⟩
  · rintro ⟨x, hx, j, hj, hne⟩
    by_cases h : D n f = 0
    · exact h
    · rw [D_full.1 h] at hp
      exact absurd (ker_zero_of_one hp.eq_one ((ker_redR n n f n _).2 hx) j hj) hne

/-- a column is put in -/
def setC (f : Mx) (a : Nat) (v : Nat → F) : Mx := fun i j => if j = a then v i else f i j
theorem D_linC {n : Nat} : ∀ (f : Mx) {a : Nat} (_ : a < n) (u v : Nat → F) (x y : F), D n (setC f a fun j => x * u j + y * v j) = x * D n (setC f a u) + y * D n (setC f a v) := by
  induction n with
  | zero => intro f a h; omega
  | succ n ih =>
    intro f a ha u v x y
    rw [D_succ, D_succ, D_succ, ← sm_mul, ← sm_mul, ← sm_add]
    refine sm_congr fun i hi => ?_
    by_cases e : a = n
    · have em : ∀ w : Nat → F, D n (minor (setC f a w) i) = D n (minor f i) := fun w => D_congr fun p q _ hq => by simp only [minor, setC]; rw [if_neg (by omega)]
      rw [em, em, em]
      simp only [setC, e, if_true]; grind
    · have em : ∀ w : Nat → F, minor (setC f a w) i = setC (minor f i) a fun p => w (skip i p) := fun w => by funext p q; rfl
      rw [em, em, em, ih _ (by omega) (fun p => u (skip i p)) (fun p => v (skip i p))]
      simp only [setC]; rw [if_neg (fun e' => e e'.symm), if_neg (fun e' => e e'.symm), if_neg (fun e' => e e'.symm)]; grind
theorem alt_tr (n : Nat) : Alt n fun A => D n (tr A) := by
  refine ⟨fun f g h => D_congr fun i j hi hj => h j i hj hi, fun f a ha u v x y => ?_, fun f a b ha hb hne h => ?_⟩
  · exact D_linC (tr f) ha u v x y
  · refine D_ker.2 ⟨fun j => if j = a then 1 else if j = b then -1 else 0, fun i hi => ?_, a, ha, by simp only [if_true]; exact fun e => zero_ne_one e.symm⟩
    rw [sm_two ha hb hne (fun j _ h1 h2 => by simp only [if_neg h1, if_neg h2]; grind)]
    simp only [if_true, tr]
    rw [if_neg (fun e => hne e.symm), h i hi]; grind
theorem D_tr (n : Nat) (f : Mx) : D n (tr f) = D n f := by
  rw [(alt_tr n).eq f]
  show _ * D n (tr one) = _
  rw [D_congr (f := tr one) (g := one) fun i j _ _ => by simp only [tr, one]; by_cases e : i = j <;> simp [e]; intro e'; exact absurd e'.symm e, D_one]
  grind
/-- sums in a row -/
theorem D_sum {n : Nat} (f : Mx) {a : Nat} (ha : a < n) (m : Nat) (c : Nat → F) (v : Nat → Nat → F) : D n (setR f a fun j => sm m fun i => c i * v i j) = sm m fun i => c i * D n (setR f a (v i)) := by
  induction m with
  | zero => exact (D_alt n).zero ha fun j _ => setR_at _ _ _ _
  | succ m ih =>
    have e : (fun j => sm (m + 1) fun i => c i * v i j) = fun j => 1 * (sm m fun i => c i * v i j) + c m * v m j := by funext j; rw [sm_succ]; grind
    rw [e, D_lin f ha, ih, sm_succ]; grind
/-- the determinant with a unit vector as row: Cramer -/
def cof (n : Nat) (f : Mx) (j i : Nat) : F := D n (setR f j fun l => if l = i then 1 else 0)
theorem cramer {n : Nat} (f : Mx) {k j : Nat} (hk : k < n) (hj : j < n) : sm n (fun i => f k i * cof n f j i) = if k = j then D n f else 0 := by
  have e : D n (setR f j fun l => sm n fun i => f k i * (if l = i then 1 else 0)) = D n (setR f j (f k)) := D_congr fun p q hp hq => by
    simp only [setR]
    split
    · rw [sm_one hq (fun i _ hne => by rw [if_neg (fun e => hne e.symm)]; grind), if_pos rfl]; grind
    · rfl
  rw [D_sum f hj] at e
  simp only [cof]
  rw [e]
  by_cases h : k = j
  · rw [if_pos h, h, setR_self]
  · rw [if_neg h]
    exact (D_alt n).same _ j k hj hk (fun e => h e.symm) fun l _ => by rw [setR_at, setR_ne h]
end Fus
namespace Fus
/-! polynomials over the field: as functions, and as lists of coefficients -/
def fp (z : F) : Nat → F
  | 0 => 1
  | k + 1 => fp z k * z
/-- the value of the polynomial with the first m coefficients c -/
def ev (m : Nat) (c : Nat → F) (z : F) : F := sm m fun i => c i * fp z i
/-- a function that is a polynomial with m coefficients -/
def IsP (m : Nat) (g : F → F) : Prop := ∃ c : Nat → F, ∀ z, g z = ev m c z

/-- the quotient by z less r, as coefficients: from above -/
def sdiv (c : Nat → F) (r : F) (m : Nat) : Nat → F := fun k => sm (m - 1 - k) fun i => c (k + 1 + i) * fp r i
theorem sm_head (n : Nat) (f : Nat → F) : sm (n + 1) f = f 0 + sm n fun i => f (i + 1) := by
  induction n with
  | zero => simp only [sm]; grind
  | succ n ih => rw [sm_succ, ih, sm_succ]; grind
theorem sdiv_step (c : Nat → F) (r : F) {m k : Nat} (h : k + 1 < m) : sdiv c r m k = c (k + 1) + r * sdiv c r m (k + 1) := by
  unfold sdiv
  obtain ⟨l, hl⟩ : ∃ l, m - 1 - k = l + 1 := ⟨m - 1 - k - 1, by omega⟩
  rw [hl, sm_head, show m - 1 - (k + 1) = l from by omega, ← sm_mul]
  congr 1
  · show c (k + 1 + 0) * 1 = _; rw [Nat.add_zero]; grind
  · exact sm_congr fun i _ => by rw [show k + 1 + (i + 1) = k + 1 + 1 + i from by omega]; show _ * (fp r i * r) = _; grind
theorem sdiv_top (c : Nat → F) (r : F) {m k : Nat} (h : m ≤ k + 1) : sdiv c r m k = 0 := by
  unfold sdiv; rw [show m - 1 - k = 0 from by omega]; rfl
theorem ev_sdiv (c : Nat → F) (r z : F) : ∀ m, 0 < m → ev m c z = (z - r) * ev (m - 1) (sdiv c r m) z + ev m c r := by
  intro m hm
  obtain ⟨l, rfl⟩ : ∃ l, m = l + 1 := ⟨m - 1, by omega⟩
  -- c k = sdiv (k - 1) - r sdiv k
  have h1 : sdiv c r (l + 1) 0 = sm l fun i => c (i + 1) * fp r i := by
    unfold sdiv; rw [show l + 1 - 1 - 0 = l from by omega]; exact sm_congr fun i _ => by rw [show 0 + 1 + i = i + 1 from by omega]
  have e1 : ev (l + 1) c r = c 0 + r * sdiv c r (l + 1) 0 := by
    rw [h1, ← sm_mul]; unfold ev; rw [sm_head]
    congr 1
    · show c 0 * 1 = _; grind
    · exact sm_congr fun i _ => by show _ * (fp r i * r) = _; grind
  have key : ∀ n, n ≤ l → ev (n + 1) c z = c 0 + z * (sm n fun k => sdiv c r (l + 1) k * fp z k) - r * (sm n fun k => sdiv c r (l + 1) (k + 1) * fp z (k + 1)) := by
    intro n
    induction n with
    | zero => intro _; simp only [ev, sm, fp]; grind
    | succ n ih =>
      intro hn
      have e2 : ev (n + 1 + 1) c z = ev (n + 1) c z + c (n + 1) * fp z (n + 1) := rfl
      rw [e2, ih (by omega), sm_succ, sm_succ, sdiv_step c r (m := l + 1) (k := n) (by omega)]
      show _ + c (n + 1) * (fp z n * z) = c 0 + z * (_ + (c (n + 1) + r * sdiv c r (l + 1) (n + 1)) * fp z n) - r * (_ + sdiv c r (l + 1) (n + 1) * (fp z n * z))
      grind
  have e3 : (sm l fun k => sdiv c r (l + 1) (k + 1) * fp z (k + 1)) = ev l (sdiv c r (l + 1)) z - sdiv c r (l + 1) 0 := by
    have : (sm (l + 1) fun k => sdiv c r (l + 1) k * fp z k) = ev l (sdiv c r (l + 1)) z := by
      rw [sm_succ, sdiv_top c r (by omega)]; unfold ev; grind
    rw [← this, sm_head]; show _ = sdiv c r (l + 1) 0 * 1 + _ - _; grind
  rw [key l (Nat.le_refl _), e1, e3, show l + 1 - 1 = l from rfl]
  unfold ev
  grind
/-- a polynomial with as many zeros as coefficients is 0 -/
theorem ev_zero : ∀ (m : Nat) (c : Nat → F) (N : Nat), m ≤ N → N ≤ 55441 → (∀ z : F, z.val < N → ev m c z = 0) → ∀ i, i < m → c i = 0 := by
  intro m
  induction m with
  | zero => intro c N _ _ _ i hi; omega
  | succ m ih =>
    intro c N hm hN h
    obtain ⟨N', rfl⟩ : ∃ N', N = N' + 1 := ⟨N - 1, by omega⟩
    have hr : N' < 55441 := by omega
    let r : F := ⟨N', hr⟩
    have hr0 : ev (m + 1) c r = 0 := h r (by show N' < N' + 1; omega)
    have hq : ∀ z : F, z.val < N' → ev m (sdiv c r (m + 1)) z = 0 := by
      intro z hz
      have h1 := ev_sdiv c r z (m + 1) (by omega)
      rw [h z (by omega), hr0] at h1
      rcases mul_zero_or (a := z - r) (b := ev m (sdiv c r (m + 1)) z) (by show (z - r) * ev (m + 1 - 1) (sdiv c r (m + 1)) z = 0; grind) with h2 | h2
      · exfalso
        have : z = r := by grind
        have : z.val = N' := by rw [this]
        omega
      · exact h2
    have hs := ih (sdiv c r (m + 1)) N' (by omega) (by omega) hq
    have hs' : ∀ k, sdiv c r (m + 1) k = 0 := fun k => by
      rcases Nat.lt_or_ge k m with h1 | h1
      · exact hs k h1
      · exact sdiv_top c r (by omega)
    intro i hi
    cases i with
    | zero =>
      have h1 : sdiv c r (m + 1) 0 = sm m fun i => c (i + 1) * fp r i := by
        unfold sdiv; rw [show m + 1 - 1 - 0 = m from by omega]; exact sm_congr fun i _ => by rw [show 0 + 1 + i = i + 1 from by omega]
      have e1 : ev (m + 1) c r = c 0 + r * sdiv c r (m + 1) 0 := by
        rw [h1, ← sm_mul]; unfold ev; rw [sm_head]
        congr 1
        · show c 0 * 1 = _; grind
        · exact sm_congr fun i _ => by show _ * (fp r i * r) = _; grind
      rw [hr0, hs' 0] at e1; grind
    | succ i =>
      have := sdiv_step c r (m := m + 1) (k := i) (by omega)
      rw [hs', hs'] at this; grind
theorem ev_inj {m : Nat} {c d : Nat → F} (hm : m ≤ 55441) (h : ∀ z, ev m c z = ev m d z) : ∀ i, i < m → c i = d i := by
  have := ev_zero m (fun i => c i - d i) 55441 hm (Nat.le_refl _) fun z _ => by
    have e : ev m (fun i => c i - d i) z = ev m c z - ev m d z := by unfold ev; rw [← sm_sub]; exact sm_congr fun i _ => by grind
    rw [e, h z]; grind
  intro i hi
  have := this i hi
  grind

theorem ev_more {m n : Nat} (c : Nat → F) (z : F) (h : m ≤ n) : ev n (fun i => if i < m then c i else 0) z = ev m c z := by
  obtain ⟨l, rfl⟩ : ∃ l, n = m + l := ⟨n - m, by omega⟩
  unfold ev
  have e1 : (sm l fun i => (fun i => if i < m then c i else 0) (m + i) * fp z (m + i)) = 0 := sm_zero fun i _ => by
    show (if m + i < m then c (m + i) else 0) * _ = 0
    rw [if_neg (by omega)]; grind
  have e2 : (sm m fun i => (fun i => if i < m then c i else 0) i * fp z i) = sm m fun i => c i * fp z i := sm_congr fun i hi => by
    show (if i < m then c i else 0) * _ = _
    rw [if_pos hi]
  rw [sm_split, e1, e2]
  grind
theorem IsP.mono {m n : Nat} {g : F → F} (h : IsP m g) (hm : m ≤ n) : IsP n g := by
  obtain ⟨c, hc⟩ := h
  exact ⟨_, fun z => (hc z).trans (ev_more c z hm).symm⟩
theorem IsP.congr {m : Nat} {g h : F → F} (hg : IsP m g) (e : ∀ z, h z = g z) : IsP m h := by
  obtain ⟨c, hc⟩ := hg; exact ⟨c, fun z => (e z).trans (hc z)⟩
theorem IsP.const (a : F) : IsP 1 fun _ => a := ⟨fun _ => a, fun z => by simp only [ev, sm, fp]; grind⟩
theorem IsP.add {m : Nat} {g h : F → F} (hg : IsP m g) (hh : IsP m h) : IsP m fun z => g z + h z := by
  obtain ⟨c, hc⟩ := hg; obtain ⟨d, hd⟩ := hh
  exact ⟨fun i => c i + d i, fun z => by show g z + h z = _; rw [hc, hd]; unfold ev; rw [← sm_add]; exact sm_congr fun i _ => by grind⟩
theorem IsP.smul {m : Nat} {g : F → F} (hg : IsP m g) (a : F) : IsP m fun z => a * g z := by
  obtain ⟨c, hc⟩ := hg
  exact ⟨fun i => a * c i, fun z => by show a * g z = _; rw [hc]; unfold ev; rw [← sm_mul]; exact sm_congr fun i _ => by grind⟩
theorem ev_shift (m : Nat) (c : Nat → F) (z : F) : ev (m + 1) (fun i => if i = 0 then 0 else c (i - 1)) z = z * ev m c z := by
  unfold ev
  rw [sm_head, ← sm_mul]
  simp only [if_true]
  rw [sm_congr (g := fun i => z * (c i * fp z i)) (fun i _ => by rw [if_neg (by omega), show i + 1 - 1 = i from rfl]; show _ * (fp z i * z) = _; grind)]
  grind
theorem IsP.shift {m : Nat} {g : F → F} (hg : IsP m g) : IsP (m + 1) fun z => z * g z := by
  obtain ⟨c, hc⟩ := hg
  exact ⟨_, fun z => by show z * g z = _; rw [hc]; exact (ev_shift m c z).symm⟩
theorem IsP.mul {m n : Nat} {g h : F → F} (hg : IsP m g) (hh : IsP n h) : IsP (m + n) fun z => g z * h z := by
  obtain ⟨c, hc⟩ := hg
  have main : ∀ k, k ≤ m → IsP (k + n) fun z => ev k c z * h z := by
    intro k
    induction k with
    | zero => intro _; exact ⟨fun _ => 0, fun z => by unfold ev; rw [sm_zero (fun i _ => by grind)]; show 0 * _ = _; grind⟩
    | succ k ih =>
      intro hk
      have hp : IsP (k + n) fun z => fp z k * h z := by
        clear ih hk
        induction k with
        | zero => exact (hh.mono (by omega)).congr fun z => by show 1 * _ = _; grind
        | succ k ih => exact (ih.shift.mono (by omega)).congr fun z => by show fp z k * z * _ = _; grind
      exact (((ih (by omega)).mono (by omega)).add ((hp.smul (c k)).mono (by omega))).congr fun z => by
        show (ev k c z + c k * fp z k) * h z = _; grind
  exact (main m (Nat.le_refl _)).congr fun z => by rw [hc]
theorem IsP.zero (m : Nat) : IsP m fun _ => 0 := ⟨fun _ => 0, fun z => by unfold ev; rw [sm_zero (fun i _ => by grind)]⟩
theorem IsP.sum {m n : Nat} {g : Nat → F → F} (h : ∀ i, i < n → IsP m (g i)) : IsP m fun z => sm n fun i => g i z := by
  induction n with
  | zero => exact IsP.zero m
  | succ n ih => exact (ih fun i hi => h i (by omega)).add (h n (by omega))
theorem IsP.id : IsP 2 fun z => z := ⟨fun i => if i = 1 then 1 else 0, fun z => by simp only [ev, sm, fp]; grind⟩
/-- a polynomial that vanishes times z vanishes -/
theorem IsP.cancel {m : Nat} {g : F → F} (hm : m + 1 ≤ 55441) (hg : IsP m g) (h : ∀ z, z * g z = 0) : ∀ z, g z = 0 := by
  obtain ⟨c, hc⟩ := hg
  have := ev_zero (m + 1) (fun i => if i = 0 then 0 else c (i - 1)) 55441 hm (Nat.le_refl _) fun z _ => by rw [ev_shift, ← hc]; exact h z
  intro z
  rw [hc]
  exact sm_zero fun i hi => by have := this (i + 1) (by omega); rw [if_neg (by omega)] at this; rw [show c i = 0 from this]; grind
/-- determinants of tables of polynomials -/
theorem IsP.D {n : Nat} : ∀ {X : F → Mx} (_ : ∀ i j, i < n → j < n → IsP 2 fun z => X z i j), IsP (2 * n + 1) fun z => D n (X z) := by
  induction n with
  | zero => intro X _; exact IsP.const 1
  | succ n ih =>
    intro X h
    refine IsP.sum (n := n + 1) (g := fun i z => sgn (n + i) * X z i n * Fus.D n (minor (X z) i)) fun i hi => ?_
    have h1 := (h i n hi (by omega)).smul (sgn (n + i))
    have h2 := ih (X := fun z => minor (X z) i) fun a b ha hb => h _ _ (skip_lt ha) (by omega)
    exact (h1.mul h2).mono (by omega)
end Fus
namespace Fus
/-! characteristic polynomials -/
/-- z times the unit table less A -/
def xz (A : Mx) (z : F) : Mx := fun i j => (if i = j then z else 0) - A i j
def chi (n : Nat) (A : Mx) (z : F) : F := D n (xz A z)
def nf : Nat → F
  | 0 => 0
  | k + 1 => nf k + 1
theorem nf_val : ∀ k, k < 55441 → (nf k).val = k := by
  intro k
  induction k with
  | zero => intro _; rfl
  | succ k ih => intro h; show (nf k + 1 : F).val = _; rw [Fin.val_add, ih (by omega)]; show (k + 1) % 55441 = k + 1; omega
theorem nf_ne {k : Nat} (h1 : 1 ≤ k) (h2 : k < 55441) : nf k ≠ 0 := fun e => by
  have := nf_val k h2
  rw [e] at this
  have h0 : (0 : F).val = 0 := rfl
  omega
def trc (n : Nat) (A : Mx) : F := sm n fun i => A i i

/-! the derivative of the characteristic polynomial is the trace of the cofactors -/
def dfp (z : F) : Nat → F
  | 0 => 0
  | k + 1 => dfp z k * z + fp z k
theorem dfp_eq (z : F) (k : Nat) : dfp z (k + 1) = nf (k + 1) * fp z k := by
  induction k with
  | zero => simp only [dfp, fp, nf]; grind
  | succ k ih =>
    show dfp z (k + 1) * z + fp z (k + 1) = (nf (k + 1) + 1) * (fp z k * z)
    rw [ih]; show _ + fp z k * z = _; grind
theorem fp_add (z : F) (k : Nat) : ∃ h : F → F, IsP (k + 1) h ∧ ∀ y, fp (z + y) k = fp z k + y * dfp z k + y * (y * h y) := by
  induction k with
  | zero => exact ⟨fun _ => 0, IsP.zero _, fun y => by simp only [fp, dfp]; grind⟩
  | succ k ih =>
    obtain ⟨h, hp, he⟩ := ih
    refine ⟨fun y => (dfp z k + z * h y) + y * h y, (((IsP.const (dfp z k)).mono (by omega)).add ((hp.smul z).mono (by omega))).add hp.shift, fun y => ?_⟩
    show fp (z + y) k * (z + y) = fp z k * z + y * (dfp z k * z + fp z k) + _
    rw [he]; grind
theorem ev_add (m : Nat) (c : Nat → F) (z : F) : ∃ h : F → F, IsP (m + 1) h ∧ ∀ y, ev m c (z + y) = ev m c z + y * (sm m fun i => c i * dfp z i) + y * (y * h y) := by
  induction m with
  | zero => exact ⟨fun _ => 0, IsP.zero _, fun y => by simp only [ev, sm]; grind⟩
  | succ m ih =>
    obtain ⟨h, hp, he⟩ := ih
    obtain ⟨g, gp, ge⟩ := fp_add z m
    refine ⟨fun y => h y + c m * g y, (hp.mono (by omega)).add ((gp.smul _).mono (by omega)), fun y => ?_⟩
    show ev m c (z + y) + c m * fp (z + y) m = (ev m c z + c m * fp z m) + y * (_ + c m * dfp z m) + _
    rw [he, ge]; grind
def unitRow (k : Nat) : Nat → F := fun l => if l = k then 1 else 0
/-- the rows before k are moved from z to z + y -/
def mix (A : Mx) (z y : F) (k : Nat) : Mx := fun i j => if i < k then xz A (z + y) i j else xz A z i j
theorem mix_step (A : Mx) (z y : F) (k : Nat) : mix A z y (k + 1) = setR (mix A z y k) k fun j => 1 * xz A z k j + y * unitRow k j := by
  funext i j
  simp only [mix, setR]
  by_cases e : i = k
  · subst e
    rw [if_pos (by omega), if_pos rfl]
    simp only [xz, unitRow]
    by_cases h : i = j
    · rw [if_pos h, if_pos h, if_pos h.symm]; grind
    · rw [if_neg h, if_neg h, if_neg (fun e => h e.symm)]; grind
  · rw [if_neg e]
    by_cases h : i < k
    · rw [if_pos h, if_pos (by omega)]
    · rw [if_neg h, if_neg (by omega)]
theorem mix_sum {n : Nat} (A : Mx) (z y : F) : ∀ m, m ≤ n → D n (mix A z y m) = chi n A z + y * sm m fun k => D n (setR (mix A z y k) k (unitRow k)) := by
  intro m
  induction m with
  | zero => intro _; show chi n A z = _ + y * 0; grind
  | succ m ih =>
    intro hm
    rw [mix_step, D_lin _ (show m < n from hm)]
    have e : setR (mix A z y m) m (xz A z m) = mix A z y m := by
      funext i j; simp only [setR, mix]; split
      · rename_i h; rw [h, if_neg (by omega)]
      · rfl
    rw [e, ih (by omega), sm_succ]; grind
theorem jacobi {n m : Nat} {A : Mx} {c : Nat → F} (hn : n ≤ 1000) (hm : m ≤ 2000) (hc : ∀ z, chi n A z = ev m c z) (z : F) :
    (sm n fun k => cof n (xz A z) k k) = sm m fun i => c i * dfp z i := by
  obtain ⟨h, hp, he⟩ := ev_add m c z
  have hX : ∀ (i j : Nat), IsP 2 fun y => xz A (z + y) i j := fun i j => by
    by_cases e : i = j
    · exact ((IsP.id.add ((IsP.const (z - A i j)).mono (by omega)))).congr fun y => by simp only [xz, if_pos e]; grind
    · exact ((IsP.const (0 - A i j)).mono (by omega)).congr fun y => by simp only [xz, if_neg e]
  have hQ : IsP (2 * n + 1) fun y => sm n fun k => D n (setR (mix A z y k) k (unitRow k)) := IsP.sum fun k _ => IsP.D fun i j _ _ => by
    by_cases e : i = k
    · exact ((IsP.const (unitRow k j)).mono (by omega)).congr fun y => by simp only [setR, if_pos e]
    · by_cases h : i < k
      · exact (hX i j).congr fun y => by simp only [setR, if_neg e, mix, if_pos h]
      · exact ((IsP.const (xz A z i j)).mono (by omega)).congr fun y => by simp only [setR, if_neg e, mix, if_neg h]
  have hg : IsP (2 * n + m + 2) fun y => ((sm n fun k => D n (setR (mix A z y k) k (unitRow k))) + -1 * (sm m fun i => c i * dfp z i)) + -1 * (y * h y) :=
    ((hQ.mono (by omega)).add ((IsP.const _).mono (by omega))).add ((hp.shift.smul (-1)).mono (by omega))
  have hz := hg.cancel (by omega) fun y => by
    have h1 := mix_sum (n := n) A z y n (Nat.le_refl _)
    have h2 : D n (mix A z y n) = chi n A (z + y) := D_congr fun i j hi _ => by simp only [mix, if_pos hi]
    rw [h2, hc, hc, he] at h1
    grind
  have h0 := hz 0
  have e0 : (sm n fun k => D n (setR (mix A z 0 k) k (unitRow k))) = sm n fun k => cof n (xz A z) k k := sm_congr fun k _ => by
    have : mix A z 0 k = xz A z := by funext i j; simp only [mix]; split <;> simp only [xz] <;> grind
    rw [this]; rfl
  rw [← e0]
  have h0' : ((sm n fun k => D n (setR (mix A z 0 k) k (unitRow k))) + -1 * (sm m fun i => c i * dfp z i)) + -1 * (0 * h 0) = 0 := h0
  grind

/-! the coefficients of the cofactors -/
theorem cof_isP (n : Nat) (A : Mx) (j i : Nat) : IsP (2 * n + 1) fun z => cof n (xz A z) j i := IsP.D fun p q _ _ => by
  by_cases e : p = j
  · exact ((IsP.const (if q = i then 1 else 0)).mono (by omega)).congr fun y => by simp only [setR, if_pos e]
  · by_cases e2 : p = q
    · exact (IsP.id.add ((IsP.const (- A p q)).mono (by omega))).congr fun y => by simp only [setR, if_neg e, xz, if_pos e2]; grind
    · exact ((IsP.const (0 - A p q)).mono (by omega)).congr fun y => by simp only [setR, if_neg e, xz, if_neg e2]
/-- tables C l (coefficients of the cofactors) with C (l - 1) - A C l = c l times the unit table, and traces told by c -/
theorem cof_coeffs {n : Nat} {A : Mx} {c : Nat → F} (hn : n ≤ 1000) (hc : ∀ z, chi n A z = ev (n + 1) c z) (hz : ∀ l, n < l → c l = 0) :
    ∃ C : Nat → Mx, (∀ l k j, k < n → j < n → n ≤ l → C l k j = 0) ∧
      (∀ l k j, k < n → j < n → C l k j - mm n A (C (l + 1)) k j = if k = j then c (l + 1) else 0) ∧
      (∀ k j, k < n → j < n → - mm n A (C 0) k j = if k = j then c 0 else 0) ∧ ∀ l, trc n (C l) = nf (l + 1) * c (l + 1) := by
  have hN : ∃ C : Nat → Mx, (∀ l i j, 2 * n + 1 ≤ l → C l i j = 0) ∧ ∀ i j z, cof n (xz A z) j i = ev (2 * n + 1) (fun l => C l i j) z := by
    have hex : ∀ i j, ∃ c : Nat → F, ∀ z, cof n (xz A z) j i = ev (2 * n + 1) c z := fun i j => cof_isP n A j i
    obtain ⟨g, hg⟩ : ∃ g : Nat → Nat → Nat → F, ∀ i j z, cof n (xz A z) j i = ev (2 * n + 1) (g i j) z := ⟨fun i j => Classical.choose (hex i j), fun i j => Classical.choose_spec (hex i j)⟩
    refine ⟨fun l i j => if l < 2 * n + 1 then g i j l else 0, fun l i j h => if_neg (by omega), fun i j z => ?_⟩
    rw [ev_more _ z (Nat.le_refl (2 * n + 1))]
    exact hg i j z
  obtain ⟨C, hC0, hC⟩ := hN
  -- the coefficients of cramer's rule
  have rel : ∀ k j, k < n → j < n → ∀ l, l < 2 * n + 2 → (if l = 0 then 0 else C (l - 1) k j) - mm n A (C l) k j = if k = j then c l else 0 := by
    intro k j hk hj
    have := ev_inj (m := 2 * n + 2) (c := fun l => (if l = 0 then 0 else C (l - 1) k j) - mm n A (C l) k j) (d := fun l => if k = j then c l else 0) (by omega) (fun z => ?_)
    · exact this
    · have e1 : ev (2 * n + 2) (fun l => (if l = 0 then 0 else C (l - 1) k j) - mm n A (C l) k j) z = z * ev (2 * n + 1) (fun l => C l k j) z - sm n fun i => A k i * ev (2 * n + 1) (fun l => C l i j) z := by
        have h1 : ev (2 * n + 2) (fun l => (if l = 0 then 0 else C (l - 1) k j) - mm n A (C l) k j) z = ev (2 * n + 2) (fun l => if l = 0 then 0 else C (l - 1) k j) z - ev (2 * n + 2) (fun l => mm n A (C l) k j) z := by
          unfold ev; rw [← sm_sub]; exact sm_congr fun l _ => by grind
        have h2 := ev_shift (2 * n + 1) (fun l => C l k j) z
        have h3 : ev (2 * n + 2) (fun l => mm n A (C l) k j) z = sm n fun i => A k i * ev (2 * n + 1) (fun l => C l i j) z := by
          have : ev (2 * n + 2) (fun l => mm n A (C l) k j) z = sm (2 * n + 2) fun l => sm n fun i => A k i * (C l i j * fp z l) := sm_congr fun l _ => by
            show (sm n fun i => A k i * C l i j) * fp z l = _
            rw [← sm_mul']; exact sm_congr fun i _ => by grind
          rw [this, sm_comm]
          refine sm_congr fun i _ => ?_
          rw [sm_mul]
          congr 1
          rw [sm_succ, hC0 _ i j (by omega)]
          unfold ev; grind
        rw [h1, h2, h3]
      have e2 : ev (2 * n + 2) (fun l => if k = j then c l else 0) z = if k = j then chi n A z else 0 := by
        by_cases h : k = j
        · simp only [if_pos h]
          rw [hc]
          have := ev_more (m := n + 1) (n := 2 * n + 2) c z (by omega)
          rw [← this]
          exact sm_congr fun l _ => by
            by_cases h' : l < n + 1
            · simp only [if_pos h']
            · simp only [if_neg h']; rw [hz l (by omega)]
        · simp only [if_neg h]; exact sm_zero fun l _ => by grind
      rw [e1, e2]
      have h5 := cramer (xz A z) hk hj
      have h6 : (sm n fun i => xz A z k i * cof n (xz A z) j i) = z * cof n (xz A z) j k - sm n fun i => A k i * cof n (xz A z) j i := by
        have : ∀ i, xz A z k i * cof n (xz A z) j i = (if i = k then z * cof n (xz A z) j k else 0) - A k i * cof n (xz A z) j i := fun i => by
          simp only [xz]
          by_cases h : k = i
          · rw [if_pos h, if_pos h.symm, h]; grind
          · rw [if_neg h, if_neg (fun e => h e.symm)]; grind
        rw [sm_congr fun i _ => this i, sm_sub, sm_one (k := k) hk (fun i _ h => by rw [if_neg h]), if_pos rfl]
      rw [h6, hC] at h5
      rw [sm_congr fun i _ => by rw [hC]] at h5
      exact h5
  have top : ∀ m l k j, l + m = 2 * n + 1 → n ≤ l → k < n → j < n → C l k j = 0 := by
    intro m
    induction m with
    | zero => intro l k j h _ _ _; exact hC0 l k j (by omega)
    | succ m ih =>
      intro l k j h hl hk hj
      have := rel k j hk hj (l + 1) (by omega)
      rw [if_neg (by omega), show l + 1 - 1 = l from rfl, hz (l + 1) (by omega)] at this
      have e : mm n A (C (l + 1)) k j = 0 := sm_zero fun i hi => by rw [ih (l + 1) i j (by omega) (by omega) hi hj]; grind
      rw [e] at this
      simp only [ite_self] at this
      grind
  have top' : ∀ l k j, k < n → j < n → n ≤ l → C l k j = 0 := fun l k j hk hj hl => by
    rcases Nat.lt_or_ge l (2 * n + 1) with h | h
    · exact top (2 * n + 1 - l) l k j (by omega) hl hk hj
    · exact hC0 l k j h
  refine ⟨C, top', fun l k j hk hj => ?_, fun k j hk hj => ?_, ?_⟩
  · rcases Nat.lt_or_ge (l + 1) (2 * n + 2) with h | h
    · have := rel k j hk hj (l + 1) h
      rw [if_neg (by omega), show l + 1 - 1 = l from rfl] at this
      exact this
    · rw [hC0 l k j (by omega), hz (l + 1) (by omega)]
      have e : mm n A (C (l + 1)) k j = 0 := sm_zero fun i hi => by rw [hC0 (l + 1) i j (by omega)]; grind
      rw [e]; simp only [ite_self]; grind
  · have := rel k j hk hj 0 (by omega)
    rw [if_pos rfl] at this
    rw [← this]; grind
  · have key := ev_inj (m := 2 * n + 1) (c := fun l => trc n (C l)) (d := fun l => nf (l + 1) * c (l + 1)) (by omega) fun z => by
      have h1 : ev (2 * n + 1) (fun l => trc n (C l)) z = sm n fun k => cof n (xz A z) k k := by
        have : ev (2 * n + 1) (fun l => trc n (C l)) z = sm (2 * n + 1) fun l => sm n fun k => C l k k * fp z l := sm_congr fun l _ => (sm_mul' _ _ _).symm
        rw [this, sm_comm]
        exact sm_congr fun k _ => (hC k k z).symm
      rw [h1, jacobi (m := n + 1) hn (by omega) hc, sm_head]
      have h2 : ev (2 * n + 1) (fun l => nf (l + 1) * c (l + 1)) z = sm n fun i => c (i + 1) * dfp z (i + 1) := by
        have := ev_more (m := n) (n := 2 * n + 1) (fun l => nf (l + 1) * c (l + 1)) z (by omega)
        have e : ev (2 * n + 1) (fun l => nf (l + 1) * c (l + 1)) z = ev (2 * n + 1) (fun i => if i < n then nf (i + 1) * c (i + 1) else 0) z := sm_congr fun l _ => by
          show _ = (if l < n then nf (l + 1) * c (l + 1) else 0) * _
          by_cases h : l < n
          · rw [if_pos h]
          · rw [if_neg h]; show nf (l + 1) * c (l + 1) * _ = _; rw [hz (l + 1) (by omega)]; grind
        rw [e, this]
        exact sm_congr fun i _ => by rw [dfp_eq]; grind
      rw [h2]
      show c 0 * 0 + _ = _; grind
    intro l
    rcases Nat.lt_or_ge l (2 * n + 1) with h | h
    · exact key l h
    · rw [hz (l + 1) (by omega)]
      have : trc n (C l) = 0 := sm_zero fun k _ => hC0 l k k h
      rw [this]; grind
end Fus
namespace Fus
/-! the polynomial by traces -/
/-- coefficients from above, and the tables made on the way: l less than n coefficients -/
def fl (n : Nat) (A : Mx) : Nat → F × Mx
  | 0 => (1, fun _ _ => 0)
  | k + 1 =>
    let M : Mx := fun i j => mm n A (fl n A k).2 i j + (if i = j then (fl n A k).1 else 0)
    (-(trc n (mm n A M)) * finv (nf (k + 1)), M)
theorem fl_succ (n : Nat) (A : Mx) (k : Nat) : (fl n A (k + 1)).2 = (fun i j => mm n A (fl n A k).2 i j + (if i = j then (fl n A k).1 else 0)) ∧ (fl n A (k + 1)).1 = -(trc n (mm n A (fl n A (k + 1)).2)) * finv (nf (k + 1)) := ⟨rfl, rfl⟩
theorem trc_congr {n : Nat} {A B : Mx} (h : ∀ i, i < n → A i i = B i i) : trc n A = trc n B := sm_congr h
theorem sm_const (n : Nat) (a : F) : (sm n fun _ => a) = nf n * a := by
  induction n with
  | zero => simp only [sm, nf]; grind
  | succ n ih => rw [sm_succ, ih]; show _ = (nf n + 1) * a; grind
theorem nf_add (m n : Nat) : nf (m + n) = nf m + nf n := by
  induction n with
  | zero => show nf m = nf m + 0; grind
  | succ n ih => show nf (m + n) + 1 = nf m + (nf n + 1); rw [ih]; grind
theorem fl_coeffs {n : Nat} {A : Mx} {c : Nat → F} (hn : n ≤ 1000) (hc : ∀ z, chi n A z = ev (n + 1) c z) (hz : ∀ l, n < l → c l = 0) (h1 : c n = 1) : ∀ k, k ≤ n → (fl n A k).1 = c (n - k) := by
  obtain ⟨C, hC0, hCs, hCz, hCt⟩ := cof_coeffs hn hc hz
  have main : ∀ k, k ≤ n → (fl n A k).1 = c (n - k) ∧ ∀ i j, i < n → j < n → (fl n A k).2 i j = C (n - k) i j := by
    intro k
    induction k with
    | zero => intro _; exact ⟨h1.symm, fun i j hi hj => (hC0 n i j hi hj (Nat.le_refl _)).symm⟩
    | succ k ih =>
      intro hk
      obtain ⟨i1, i2⟩ := ih (by omega)
      have e : n - (k + 1) + 1 = n - k := by omega
      have hM : ∀ i j, i < n → j < n → (fl n A (k + 1)).2 i j = C (n - (k + 1)) i j := by
        intro i j hi hj
        rw [(fl_succ n A k).1]
        have h2 := hCs (n - (k + 1)) i j hi hj
        rw [e] at h2
        show mm n A (fl n A k).2 i j + (if i = j then (fl n A k).1 else 0) = _
        rw [i1, mm_congr (b' := C (n - k)) (fun _ _ => rfl) (fun l hl => i2 l j hl hj)]
        grind
      refine ⟨?_, hM⟩
      rw [(fl_succ n A k).2]
      have ht : trc n (mm n A (fl n A (k + 1)).2) = trc n (mm n A (C (n - (k + 1)))) := trc_congr fun i hi => mm_congr (fun _ _ => rfl) (fun l hl => hM l i hl hi)
      rw [ht]
      -- the trace of A C l is (l - n) c l
      have hk1 := mul_finv (nf_ne (k := k + 1) (by omega) (by omega))
      generalize finv (nf (k + 1)) = v at hk1 ⊢
      have htr : trc n (mm n A (C (n - (k + 1)))) = (nf (n - (k + 1)) - nf n) * c (n - (k + 1)) := by
        rcases Nat.eq_zero_or_pos (n - (k + 1)) with h0 | h0
        · rw [h0]
          have : trc n (mm n A (C 0)) = sm n fun _ => -1 * c 0 := sm_congr fun i hi => by have := hCz i i hi hi; rw [if_pos rfl] at this; grind
          rw [this, sm_const]; show _ = (0 - nf n) * _; grind
        · obtain ⟨l, hl⟩ : ∃ l, n - (k + 1) = l + 1 := ⟨n - (k + 1) - 1, by omega⟩
          rw [hl]
          have : trc n (mm n A (C (l + 1))) = sm n fun i => C l i i - c (l + 1) := sm_congr fun i hi => by have := hCs l i i hi hi; rw [if_pos rfl] at this; grind
          rw [this, sm_sub, sm_const]
          have h3 : (sm n fun i => C l i i) = nf (l + 1) * c (l + 1) := hCt l
          rw [h3]; grind
      have hnf : nf n = nf (n - (k + 1)) + nf (k + 1) := by rw [← nf_add]; congr 1; omega
      rw [htr, hnf]
      grind
  exact fun k hk => (main k hk).1

/-! the polynomial of a table of Hessenberg -/
/-- the product of m numbers under the diagonal, from row i + 1 on -/
def prd (h : Mx) (i : Nat) : Nat → F
  | 0 => 1
  | m + 1 => prd h i m * h (i + m + 1) (i + m)
theorem hess_last {X : Mx} {k : Nat} (hX : ∀ i j, j + 1 < i → i ≤ k + 1 → X i j = 0) (v : Nat → F) :
    D (k + 2) (setR (tr X) (k + 1) v) = v (k + 1) * D (k + 1) (tr X) - X (k + 1) k * D (k + 1) (setR (tr X) k v) := by
  have m1 : D (k + 1) (minor (setR (tr X) (k + 1) v) (k + 1)) = D (k + 1) (tr X) := D_congr fun a b ha _ => by
    simp only [minor]; rw [show skip (k + 1) a = a from by simp [skip, ha], setR_ne (by omega)]
  have m2 : D (k + 1) (minor (setR (tr X) (k + 1) v) k) = D (k + 1) (setR (tr X) k v) := D_congr fun a b ha _ => by
    simp only [minor]
    by_cases e : a = k
    · subst e; rw [show skip a a = a + 1 from by simp [skip], setR_at, setR_at]
    · rw [show skip k a = a from by unfold skip; rw [if_pos (by omega)], setR_ne (by omega), setR_ne e]
  rw [D_succ, sm_two (k := k + 1) (l := k) (by omega) (by omega) (by omega), m1, m2, setR_at, setR_ne (by omega)]
  · have s1 : sgn (k + 1 + (k + 1)) = 1 := by unfold sgn; rw [if_pos (by omega)]
    have s2 : sgn (k + 1 + k) = -1 := by unfold sgn; rw [if_neg (by omega)]
    rw [s1, s2]
    show 1 * v (k + 1) * _ + -1 * X (k + 1) k * _ = _
    grind
  · intro i hi h1 h2
    rw [setR_ne h1]
    show sgn _ * X (k + 1) i * _ = 0
    rw [hX (k + 1) i (by omega) (by omega)]; grind
theorem hess_sum {X : Mx} {N : Nat} (hX : ∀ i j, j + 1 < i → i < N → X i j = 0) (v : Nat → F) : ∀ k, k < N →
    D (k + 1) (setR (tr X) k v) = v k * D k (tr X) + sm k fun i => prd (fun a b => - X a b) i (k - i) * v i * D i (tr X) := by
  intro k
  induction k with
  | zero =>
    intro _
    show (0 : F) + sgn 0 * (setR (tr X) 0 v 0 0) * 1 = v 0 * 1 + 0
    rw [setR_at, show sgn 0 = 1 from rfl]; grind
  | succ k ih =>
    intro hk
    rw [hess_last (fun i j h1 h2 => hX i j h1 (by omega)) v, ih (by omega), sm_succ]
    have e : (sm k fun i => prd (fun a b => - X a b) i (k + 1 - i) * v i * D i (tr X)) = - X (k + 1) k * sm k fun i => prd (fun a b => - X a b) i (k - i) * v i * D i (tr X) := by
      rw [← sm_mul]
      exact sm_congr fun i hi => by
        rw [show k + 1 - i = (k - i) + 1 from by omega]
        show prd _ i (k - i) * (- X (i + (k - i) + 1) (i + (k - i))) * _ * _ = _
        rw [show i + (k - i) = k from by omega]; grind
    rw [e, show k + 1 - k = 0 + 1 from by omega]
    show _ = _ + (_ + 1 * (- X (k + 0 + 1) (k + 0)) * v k * D k (tr X))
    rw [Nat.add_zero]; grind
/-- the polynomials of the upper left parts: table of the first ones, as coefficients -/
def hp (h : Mx) : Nat → Nat → Nat → F
  | 0 => fun _ l => if l = 0 then 1 else 0
  | k + 1 => fun i l => if i = k + 1 then (if l = 0 then 0 else hp h k k (l - 1)) - h k k * hp h k k l - sm k (fun i => prd h i (k - i) * h i k * hp h k i l) else hp h k i l
theorem hp_old (h : Mx) {k i : Nat} (hi : i ≤ k) : hp h (k + 1) i = hp h k i := by
  funext l; show (if i = k + 1 then _ else hp h k i l) = _; rw [if_neg (by omega)]
theorem hp_new (h : Mx) (k l : Nat) : hp h (k + 1) (k + 1) l = (if l = 0 then 0 else hp h k k (l - 1)) - h k k * hp h k k l - sm k (fun i => prd h i (k - i) * h i k * hp h k i l) := by
  show (if k + 1 = k + 1 then _ else _) = _; rw [if_pos rfl]
theorem hp_same (h : Mx) {k i : Nat} (hi : i ≤ k) : hp h k i = hp h i i := by
  induction k with
  | zero => rw [show i = 0 from by omega]
  | succ k ih =>
    by_cases e : i = k + 1
    · rw [e]
    · rw [hp_old h (by omega), ih (by omega)]
theorem hp_deg (h : Mx) : ∀ k l, k < l → hp h k k l = 0 := by
  intro k
  induction k using Nat.strongRecOn with
  | _ k ih =>
    cases k with
    | zero => intro l hl; show (if l = 0 then 1 else 0) = 0; rw [if_neg (by omega)]
    | succ k =>
      intro l hl
      rw [hp_new, if_neg (by omega), ih k (by omega) (l - 1) (by omega), ih k (by omega) l (by omega), sm_zero (fun i hi => by rw [hp_same h (by omega), ih i (by omega) l (by omega)]; grind)]
      grind
theorem hp_lead (h : Mx) : ∀ k, hp h k k k = 1 := by
  intro k
  induction k with
  | zero => rfl
  | succ k ih =>
    rw [hp_new, if_neg (by omega), show k + 1 - 1 = k from rfl, ih, hp_deg h k (k + 1) (by omega), sm_zero (fun i hi => by rw [hp_same h (by omega), hp_deg h i (k + 1) (by omega)]; grind)]
    grind
theorem ev_ext {m n : Nat} {c : Nat → F} (z : F) (h : m ≤ n) (hz : ∀ i, m ≤ i → c i = 0) : ev n c z = ev m c z := by
  rw [← ev_more c z h]
  exact sm_congr fun i _ => by
    by_cases e : i < m
    · simp only [if_pos e]
    · simp only [if_neg e]; rw [hz i (by omega)]
theorem hess_chi {h : Mx} {N : Nat} (hh : ∀ i j, j + 1 < i → i < N → h i j = 0) (z : F) : ∀ k, k ≤ N → D k (tr (xz h z)) = ev (k + 1) (hp h k k) z := by
  intro k
  induction k using Nat.strongRecOn with
  | _ k ih =>
    cases k with
    | zero => intro _; show (1 : F) = 0 + 1 * 1; grind
    | succ k =>
      intro hk
      have hX : ∀ i j, j + 1 < i → i < N → xz h z i j = 0 := fun i j h1 h2 => by simp only [xz]; rw [if_neg (by omega), hh i j h1 h2]; grind
      have h1 := hess_sum hX (fun b => xz h z b k) k (by omega)
      have e1 : setR (tr (xz h z)) k (fun b => xz h z b k) = tr (xz h z) := setR_self (tr (xz h z)) k
      rw [e1] at h1
      rw [h1, ih k (by omega) (by omega)]
      have e2 : ev (k + 1 + 1) (hp h (k + 1) (k + 1)) z = z * ev (k + 1) (hp h k k) z - h k k * ev (k + 1) (hp h k k) z - sm k fun i => prd h i (k - i) * h i k * ev (i + 1) (hp h i i) z := by
        have s1 : ev (k + 1 + 1) (fun l => if l = 0 then 0 else hp h k k (l - 1)) z = z * ev (k + 1) (hp h k k) z := ev_shift (k + 1) (hp h k k) z
        have s2 : ev (k + 1 + 1) (fun l => h k k * hp h k k l) z = h k k * ev (k + 1) (hp h k k) z := by
          rw [← ev_ext (m := k + 1) (n := k + 1 + 1) (c := hp h k k) z (by omega) (fun i hi => hp_deg h k i (by omega))]
          unfold ev; rw [← sm_mul]; exact sm_congr fun l _ => by grind
        have s3 : ev (k + 1 + 1) (fun l => sm k fun i => prd h i (k - i) * h i k * hp h k i l) z = sm k fun i => prd h i (k - i) * h i k * ev (i + 1) (hp h i i) z := by
          have : ev (k + 1 + 1) (fun l => sm k fun i => prd h i (k - i) * h i k * hp h k i l) z = sm (k + 1 + 1) fun l => sm k fun i => prd h i (k - i) * h i k * (hp h k i l * fp z l) := sm_congr fun l _ => by
            show (sm k fun i => prd h i (k - i) * h i k * hp h k i l) * fp z l = _
            rw [← sm_mul']; exact sm_congr fun i _ => by grind
          rw [this, sm_comm]
          refine sm_congr fun i hi => ?_
          rw [sm_mul, hp_same h (by omega)]
          congr 1
          exact ev_ext z (by omega) (fun l hl => hp_deg h i l (by omega))
        rw [← s1, ← s2, ← s3]
        unfold ev
        rw [← sm_sub, ← sm_sub]
        exact sm_congr fun l _ => by rw [hp_new]; grind
      rw [e2]
      have e3 : (sm k fun i => prd (fun a b => - xz h z a b) i (k - i) * xz h z i k * D i (tr (xz h z))) = (-1 : F) * sm k fun i => prd h i (k - i) * h i k * ev (i + 1) (hp h i i) z := by
        rw [← sm_mul]
        refine sm_congr fun i hi => ?_
        have hpd : ∀ m, prd (fun a b => - xz h z a b) i m = prd h i m := by
          intro m
          induction m with
          | zero => rfl
          | succ m ihm =>
            show prd _ i m * (- xz h z (i + m + 1) (i + m)) = prd h i m * h (i + m + 1) (i + m)
            rw [ihm]; simp only [xz]; rw [if_neg (by omega)]; grind
        rw [hpd, ih i (by omega) (by omega)]
        simp only [xz]
        rw [if_neg (by omega)]; grind
      rw [e3]
      simp only [xz, if_true]
      grind
end Fus
namespace Fus
/-! tables led to the form of Hessenberg by similar ones -/
def swapC (f : Mx) (a b : Nat) : Mx := fun i j => if j = a then f i b else if j = b then f i a else f i j
/-- row i less c times row p; then column p plus c times column i -/
def simI (h : Mx) (p i : Nat) (c : F) : Mx := fun a b =>
  let h1 : Mx := fun a b => if a = i then h i b + (-c) * h p b else h a b
  if b = p then h1 a b + c * h1 a i else h1 a b
def elimH (g : Mx) (k : Nat) (v : F) : Nat → Mx
  | 0 => g
  | m + 1 => simI (elimH g k v m) (k + 1) (k + 2 + m) (elimH g k v m (k + 2 + m) k * v)
def hstep (n k : Nat) (h : Mx) : Mx :=
  match pivot h k (k + 1) n with
  | none => h
  | some m =>
    let g := swapC (swapR h (k + 1) (k + 1 + m)) (k + 1) (k + 1 + m)
    elimH g k (finv (g (k + 1) k)) (n - (k + 2))
def hess (n : Nat) (A : Mx) : Nat → Mx
  | 0 => A
  | k + 1 => hstep n k (hess n A k)
theorem D_swapC {n : Nat} {a b : Nat} (ha : a < n) (hb : b < n) (hab : a ≠ b) (f : Mx) : D n (swapC f a b) = - D n f := by
  have e : D n (swapC f a b) = D n (tr (swapR (tr f) a b)) := D_congr fun i j _ _ => by simp only [swapC, tr, swapR]
  rw [e, D_tr, (D_alt n).swap ha hb hab, D_tr]
theorem chi_swap {n : Nat} {a b : Nat} (ha : a < n) (hb : b < n) (h : Mx) (z : F) : chi n (swapC (swapR h a b) a b) z = chi n h z := by
  by_cases hab : a = b
  · subst hab
    have e : swapC (swapR h a a) a a = h := by
      funext i j; simp only [swapC, swapR]
      by_cases e1 : i = a <;> by_cases e2 : j = a <;> simp [e1, e2]
    rw [e]
  · have e : xz (swapC (swapR h a b) a b) z = swapC (swapR (xz h z) a b) a b := by
      funext i j; simp only [swapC, swapR, xz]; grind
    show D n (xz (swapC (swapR h a b) a b) z) = D n (xz h z)
    rw [e, D_swapC ha hb hab, (D_alt n).swap ha hb hab]; grind
theorem chi_sim {n : Nat} {p i : Nat} (hp : p < n) (hi : i < n) (hne : i ≠ p) (h : Mx) (c z : F) : chi n (simI h p i c) z = chi n h z := by
  have e1 : D n (setR (xz h z) i fun j => xz h z i j + (-c) * xz h z p j) = D n (xz h z) := (D_alt n).add hi hp hne _ _
  generalize hX : (setR (xz h z) i fun j => xz h z i j + (-c) * xz h z p j) = X at e1
  have e2 : D n (setR (tr X) p fun j => tr X p j + c * tr X i j) = D n (tr X) := (D_alt n).add hp hi (fun e => hne e.symm) _ _
  have e3 : xz (simI h p i c) z = tr (setR (tr X) p fun j => tr X p j + c * tr X i j) := by
    funext a b
    rw [← hX]
    simp only [xz, simI, tr, setR]
    by_cases h1 : b = p
    · simp only [h1, if_true]
      by_cases h2 : a = i
      · simp only [h2, if_true, if_neg hne]; grind
      · by_cases h3 : a = p
        · simp only [h3, if_true, if_neg (fun e : p = i => hne e.symm)]; grind
        · simp only [if_neg h2, if_neg h3]; grind
    · simp only [if_neg h1]
      by_cases h2 : a = i
      · simp only [h2, if_true, if_neg (fun e : p = b => h1 e.symm)]; grind
      · simp only [if_neg h2]
  show D n (xz (simI h p i c) z) = D n (xz h z)
  rw [e3, D_tr, e2, D_tr, e1]
theorem chi_elim {n k : Nat} (hk : k + 1 < n) (g : Mx) (v z : F) : ∀ m, k + 2 + m ≤ n → chi n (elimH g k v m) z = chi n g z := by
  intro m
  induction m with
  | zero => intro _; rfl
  | succ m ih => intro hm; show chi n (simI _ _ _ _) z = _; rw [chi_sim hk (by omega) (by omega), ih (by omega)]
theorem chi_step {n k : Nat} (hk : k + 2 ≤ n) (h : Mx) (z : F) : chi n (hstep n k h) z = chi n h z := by
  unfold hstep
  rcases pivot_cases h k (k + 1) n with ⟨m, h1, _, _, h4⟩ | ⟨_, h2⟩
  · rw [h4]; exact (chi_elim (by omega) _ _ z _ (by omega)).trans (chi_swap (by omega) h1 h z)
  · rw [h2]
theorem chi_hess {n : Nat} (A : Mx) (z : F) : ∀ k, k + 1 ≤ n → chi n (hess n A k) z = chi n A z := by
  intro k
  induction k with
  | zero => intro _; rfl
  | succ k ih => intro hk; show chi n (hstep n k _) z = _; rw [chi_step (by omega), ih (by omega)]
/-- zeros under the diagonal, in the first columns -/
def Hes (n k : Nat) (h : Mx) : Prop := ∀ i j, j < k → j + 1 < i → i < n → h i j = 0
theorem hes_swap {n k m : Nat} {h : Mx} (hh : Hes n k h) (hm : k + 1 + m < n) : Hes n k (swapC (swapR h (k + 1) (k + 1 + m)) (k + 1) (k + 1 + m)) := by
  intro i j hj hji hi
  simp only [swapC, swapR]
  rw [if_neg (by omega), if_neg (by omega)]
  by_cases e1 : i = k + 1
  · rw [if_pos e1]; exact hh _ _ hj (by omega) hm
  · rw [if_neg e1]
    by_cases e2 : i = k + 1 + m
    · rw [if_pos e2]; exact hh _ _ hj (by omega) (by omega)
    · rw [if_neg e2]; exact hh _ _ hj hji hi
theorem elim_row {g : Mx} {k : Nat} {v : F} (m : Nat) : ∀ a j, a < k + 2 → j ≤ k → elimH g k v m a j = g a j := by
  induction m with
  | zero => intro a j _ _; rfl
  | succ m ih =>
    intro a j ha hj
    show (if j = k + 1 then _ else if a = k + 2 + m then _ else elimH g k v m a j) = _
    rw [if_neg (by omega), if_neg (by omega), ih a j ha hj]
theorem hes_elim {n k : Nat} {g : Mx} {v : F} (hh : Hes n k g) (hv : g (k + 1) k * v = 1) : ∀ m, k + 2 + m ≤ n → Hes n k (elimH g k v m) ∧ (∀ i, k + 2 ≤ i → i < k + 2 + m → elimH g k v m i k = 0) := by
  intro m
  induction m with
  | zero => intro _; exact ⟨hh, fun i h1 h2 => by omega⟩
  | succ m ih =>
    intro hm
    obtain ⟨i1, i2⟩ := ih (by omega)
    have hb : ∀ i j, j ≤ k → elimH g k v (m + 1) i j = if i = k + 2 + m then elimH g k v m (k + 2 + m) j + (-(elimH g k v m (k + 2 + m) k * v)) * elimH g k v m (k + 1) j else elimH g k v m i j := by
      intro i j hj
      show (if j = k + 1 then _ else (if i = k + 2 + m then _ else _)) = _
      rw [if_neg (by omega)]
    refine ⟨fun i j hj hji hi => ?_, fun i h1 h2 => ?_⟩
    · rw [hb i j (by omega)]
      by_cases e : i = k + 2 + m
      · rw [if_pos e, i1 (k + 2 + m) j hj (by omega) (by omega), i1 (k + 1) j hj (by omega) (by omega)]; grind
      · rw [if_neg e]; exact i1 i j hj hji hi
    · rw [hb i k (by omega)]
      by_cases e : i = k + 2 + m
      · rw [if_pos e, elim_row m (k + 1) k (by omega) (by omega)]; grind
      · rw [if_neg e]; exact i2 i h1 (by omega)
theorem hes_step {n k : Nat} {h : Mx} (hh : Hes n k h) (hk : k + 2 ≤ n) : Hes n (k + 1) (hstep n k h) := by
  unfold hstep
  rcases pivot_cases h k (k + 1) n with ⟨m, h1, h2, _, h4⟩ | ⟨h1, h2⟩
  · rw [h4]
    have hp : swapC (swapR h (k + 1) (k + 1 + m)) (k + 1) (k + 1 + m) (k + 1) k ≠ 0 := by
      have e : swapC (swapR h (k + 1) (k + 1 + m)) (k + 1) (k + 1 + m) (k + 1) k = h (k + 1 + m) k := by
        simp only [swapC, swapR]; rw [if_neg (by omega), if_neg (by omega), if_true]
      rw [e]; exact h2
    obtain ⟨a1, a2⟩ := hes_elim (hes_swap hh h1) (mul_finv hp) (n - (k + 2)) (by omega)
    intro i j hj hji hi
    by_cases e : j = k
    · subst e; exact a2 i (by omega) (by omega)
    · exact a1 i j (by omega) hji hi
  · rw [h2]
    intro i j hj hji hi
    by_cases e : j = k
    · subst e; exact h1 i (by omega) hi
    · exact hh i j (by omega) hji hi
theorem hes_hess {n : Nat} (A : Mx) : ∀ k, k + 1 ≤ n → Hes n k (hess n A k) := by
  intro k
  induction k with
  | zero => intro _ i j hj; omega
  | succ k ih => intro hk; exact hes_step (ih (by omega)) (by omega)
/-- the characteristic polynomial by Hessenberg -/
def hpoly (n : Nat) (A : Mx) : Nat → F := hp (hess n A (n - 2)) n n
theorem hess_full {n : Nat} (A : Mx) : ∀ i j, j + 1 < i → i < n → hess n A (n - 2) i j = 0 := by
  intro i j hji hi
  exact hes_hess A (n - 2) (by omega) i j (by omega) hji hi
theorem chi_hpoly {n : Nat} (hn : 1 ≤ n) (A : Mx) (z : F) : chi n A z = ev (n + 1) (hpoly n A) z := by
  rw [← chi_hess A z (n - 2) (by omega)]
  show D n (xz _ z) = _
  rw [← D_tr, hess_chi (N := n) (fun i j h1 h2 => hess_full A i j h1 h2) z n (Nat.le_refl _)]
  rfl
/-- both reckon the same polynomial -/
theorem fl_hpoly {n : Nat} (hn : 1 ≤ n) (hn' : n ≤ 1000) (A : Mx) {k : Nat} (hk : k ≤ n) : (fl n A k).1 = hpoly n A (n - k) :=
  fl_coeffs hn' (chi_hpoly hn A) (fun l hl => hp_deg _ n l hl) (hp_lead _ n) k hk
end Fus
namespace Fus
/-! bases of kernels, as the programs make them -/
/-- the first place of a number other than 0 in row i, of c places -/
def ld (f : Mx) (c i : Nat) : Nat := (leastR (fun j => f i j != 0) c).getD 0
theorem ld_red {r c d : Nat} {f : Mx} {p : Nat → Nat} (h : Red r c f d p) {i : Nat} (hi : i < d) : ld f c i = p i ∧ leastR (fun j => f i j != 0) c = some (p i) := by
  have e : leastR (fun j => f i j != 0) c = some (p i) := leastR_some (h.lt i hi) (fun j hj => by simp [h.left i j hi hj]) (by
    have := h.col i i hi (by have := h.le; omega)
    rw [if_pos rfl] at this
    rw [this]; simp)
  exact ⟨by unfold ld; rw [e]; rfl, e⟩
theorem ld_one {r c d : Nat} {f : Mx} {p : Nat → Nat} (h : Red r c f d p) {i : Nat} (hi : i < d) : leastR (fun j => f i j == 1) c = some (p i) :=
  leastR_some (h.lt i hi) (fun j hj => by rw [h.left i j hi hj]; simp) (by
    have := h.col i i hi (by have := h.le; omega)
    rw [if_pos rfl] at this
    rw [this]; simp)
/-- is no leading number of the first d rows in column k -/
def isFree (f : Mx) (c d k : Nat) : Bool := (List.range d).all fun i => ld f c i != k
theorem isFree_iff {f : Mx} {c d k : Nat} : isFree f c d k = true ↔ ∀ i, i < d → ld f c i ≠ k := by
  simp [isFree]
/-- the columns without leading numbers, below n -/
def frees (f : Mx) (c d n : Nat) : List Nat := (List.range n).filter (isFree f c d)
theorem frees_succ (f : Mx) (c d n : Nat) : frees f c d (n + 1) = frees f c d n ++ (if isFree f c d n then [n] else []) := by
  unfold frees; rw [List.range_succ, List.filter_append]; congr 1
  by_cases h : isFree f c d n <;> simp [h]
theorem frees_lt {f : Mx} {c d n k : Nat} (h : k ∈ frees f c d n) : k < n ∧ isFree f c d k = true := by
  unfold frees at h; rw [List.mem_filter] at h; exact ⟨List.mem_range.1 h.1, h.2⟩
/-- the vectors of the free columns -/
def freeRows (f : Mx) (c d : Nat) : Mx := fun i => fvec f d (ld f c) ((frees f c d c).getD i 0)
/-- the reduced basis of the kernel of r rows with c columns -/
def kerR (r c : Nat) (f : Mx) : RS :=
  let s := redR r f c
  redR (frees s.f c s.d c).length (freeRows s.f c s.d) c

theorem count_free {f : Mx} {c : Nat} {p : Nat → Nat} : ∀ (n d : Nat), (∀ i, i < d → p i < n) → (∀ i j, i < j → j < d → p i < p j) → (∀ i, i < d → ld f c i = p i) → (frees f c d n).length + d = n := by
  intro n
  induction n with
  | zero =>
    intro d h1 _ _
    have hd : d = 0 := by
      rcases Nat.eq_zero_or_pos d with h | h
      · exact h
      · have := h1 0 h; omega
    subst hd; rfl
  | succ n ih =>
    intro d h1 h2 h3
    rw [frees_succ, List.length_append]
    by_cases hl : 0 < d ∧ p (d - 1) = n
    · have hf : isFree f c d n = false := by
        cases h : isFree f c d n
        · rfl
        · exact absurd ((h3 _ (by omega)).trans hl.2) (isFree_iff.1 h (d - 1) (by omega))
      have hsame : frees f c d n = frees f c (d - 1) n := by
        unfold frees
        refine List.filter_congr fun k hk => ?_
        have hk' := List.mem_range.1 hk
        rw [Bool.eq_iff_iff, isFree_iff, isFree_iff]
        refine ⟨fun h i hi => h i (by omega), fun h i hi => ?_⟩
        by_cases e : i = d - 1
        · rw [e, h3 _ (by omega), hl.2]; omega
        · exact h i (by omega)
      have := ih (d - 1) (fun i hi => by have := h2 i (d - 1) (by omega) (by omega); omega) (fun i j hi hj => h2 i j hi (by omega)) (fun i hi => h3 i (by omega))
      rw [hsame, hf]; simp; omega
    · have hall : ∀ i, i < d → p i < n := fun i hi => by
        have := h1 i hi
        by_cases e : p i = n
        · exfalso
          have : i = d - 1 := by
            rcases Nat.lt_or_ge i (d - 1) with h | h
            · have := h2 i (d - 1) h (by omega); have := h1 (d - 1) (by omega); omega
            · omega
          exact hl ⟨by omega, by rw [← this]; exact e⟩
        · omega
      have hf : isFree f c d n = true := isFree_iff.2 fun i hi => by rw [h3 i hi]; have := hall i hi; omega
      have := ih d hall h2 h3
      rw [hf]; simp; omega
/-- rank and kernel have together as many vectors as there are columns; the free vectors are independent -/
theorem fvec_ld {r c d : Nat} {f : Mx} {p : Nat → Nat} (h : Red r c f d p) (k j : Nat) : fvec f d (ld f c) k j = fvec f d p k j := by
  simp only [fvec]; rw [sm_congr fun i hi => by rw [(ld_red h hi).1]]
theorem red_ld {r c d : Nat} {f : Mx} {p : Nat → Nat} (h : Red r c f d p) : Red r c f d (ld f c) := by
  refine ⟨h.le, fun i hi => ?_, fun i j hij hj => ?_, fun i a hi ha => ?_, fun i j hi hj => ?_, h.rest⟩
  · rw [(ld_red h hi).1]; exact h.lt i hi
  · rw [(ld_red h (show i < d by omega)).1, (ld_red h hj).1]; exact h.inc i j hij hj
  · rw [(ld_red h hi).1]; exact h.col i a hi ha
  · rw [(ld_red h hi).1] at hj; exact h.left i j hi hj
theorem fvec_free {f : Mx} {c d k j : Nat} (hj : isFree f c d j = true) : fvec f d (ld f c) k j = if j = k then 1 else 0 := by
  simp only [fvec]
  rw [sm_zero (fun i hi => by rw [if_neg (fun e => isFree_iff.1 hj i hi e.symm)])]
  grind
theorem frees_inj {f : Mx} {c d n i j : Nat} (hi : i < (frees f c d n).length) (hj : j < (frees f c d n).length) (h : (frees f c d n).getD i 0 = (frees f c d n).getD j 0) : i = j := by
  have hn : (frees f c d n).Nodup := List.Pairwise.sublist List.filter_sublist List.nodup_range
  rw [List.getD_eq_getElem?_getD, List.getD_eq_getElem?_getD, List.getElem?_eq_getElem hi, List.getElem?_eq_getElem hj] at h
  exact (List.getElem_inj (h₀ := hi) (h₁ := hj) hn).1 h
theorem frees_at {f : Mx} {c d n i : Nat} (hi : i < (frees f c d n).length) : (frees f c d n).getD i 0 < n ∧ isFree f c d ((frees f c d n).getD i 0) = true := by
  refine frees_lt ?_
  rw [List.getD_eq_getElem?_getD, List.getElem?_eq_getElem hi]
  exact List.getElem_mem hi
theorem kerR_full (r c : Nat) (f : Mx) : (kerR r c f).d = (frees (redR r f c).f c (redR r f c).d c).length := by
  obtain ⟨p, hp0⟩ := red_redR r f c
  have hp := red_ld hp0
  show (redR (frees (redR r f c).f c (redR r f c).d c).length (freeRows (redR r f c).f c (redR r f c).d) c).d = _
  generalize (redR r f c).f = g at *
  generalize (redR r f c).d = d at *
  generalize hm : (frees g c d c).length = m
  rcases Nat.lt_or_ge (redR m (freeRows g c d) c).d m with h | h
  · exfalso
    -- fewer equations than unknowns
    obtain ⟨y, hy, l, hl, hne⟩ := ker_nonzero (fun i l => (redR m (freeRows g c d) c).f i ((frees g c d c).getD l 0)) h
    obtain ⟨q, hq⟩ := red_redR m (freeRows g c d) c
    let x : Nat → F := fun j => sm m fun l => if j = (frees g c d c).getD l 0 then y l else 0
    have pick : ∀ v : Nat → F, sm c (fun j => v j * x j) = sm m fun l => v ((frees g c d c).getD l 0) * y l := fun v => by
      have e : ∀ j, v j * x j = sm m fun l => v j * (if j = (frees g c d c).getD l 0 then y l else 0) := fun j => (sm_mul _ _ _).symm
      rw [sm_congr fun j _ => e j, sm_comm]
      exact sm_congr fun l hl => sm_pick (frees_at (by omega)).1 _ _
    have hx : Ker m c (redR m (freeRows g c d) c).f x := fun i hi => by
      rcases Nat.lt_or_ge i (redR m (freeRows g c d) c).d with h1 | h1
      · rw [pick]; exact hy i h1
      · exact sm_zero fun j hj => by rw [hq.rest i j h1 hi hj]; grind
    have := (ker_redR m c (freeRows g c d) c x).1 hx l hl
    rw [pick, sm_one hl (fun l' hl' hne' => ?_)] at this
    · have e : freeRows g c d l ((frees g c d c).getD l 0) = 1 := by
        show fvec g d (ld g c) _ _ = 1
        rw [fvec_free (frees_at (by omega)).2, if_pos rfl]
      rw [e] at this
      exact hne (by grind)
    · have e : freeRows g c d l ((frees g c d c).getD l' 0) = 0 := by
        show fvec g d (ld g c) _ _ = 0
        rw [fvec_free (frees_at (by omega)).2, if_neg (fun e => hne' (frees_inj (by omega) (by omega) e))]
      rw [e]; grind
  · have := (redR_d m (freeRows g c d) c).1
    omega
theorem rank_nullity (r c : Nat) (f : Mx) : (redR r f c).d + (kerR r c f).d = c := by
  rw [kerR_full]
  obtain ⟨p, hp⟩ := red_redR r f c
  have := count_free (f := (redR r f c).f) (c := c) c (redR r f c).d hp.lt hp.inc (fun i hi => (ld_red hp hi).1)
  omega
theorem ker_comb {r c : Nat} {f : Mx} : ∀ u v (a b : F), Ker r c f u → Ker r c f v → Ker r c f fun j => a * u j + b * v j := by
  intro u v a b hu hv i hi
  have e : sm c (fun j => f i j * (a * u j + b * v j)) = a * sm c (fun j => f i j * u j) + b * sm c (fun j => f i j * v j) := by
    rw [← sm_mul, ← sm_mul, ← sm_add]; exact sm_congr fun j _ => by grind
  rw [e, hu i hi, hv i hi]; grind
/-- the vectors of the basis lie in the kernel -/
theorem kerR_ker (r c : Nat) (f : Mx) {i : Nat} (hi : i < (kerR r c f).d) : Ker r c f ((kerR r c f).f i) := by
  obtain ⟨p, hp0⟩ := red_redR r f c
  have hp := red_ld hp0
  have h := rows_redR (P := Ker r c f) ker_comb (r := (frees (redR r f c).f c (redR r f c).d c).length) (f := freeRows (redR r f c).f c (redR r f c).d) (fun i hi => (ker_redR r c f c _).1 (fvec_ker hp (frees_at hi).1)) c
  exact h i (by rw [kerR_full] at hi; exact hi)
/-- the basis is told by the kernel -/
theorem kerR_unique {r r' c : Nat} {f g : Mx} (h : ∀ x, Ker r c f x ↔ Ker r' c g x) : (kerR r c f).d = (kerR r' c g).d ∧ ∀ i j, i < (kerR r c f).d → j < c → (kerR r c f).f i j = (kerR r' c g).f i j := by
  obtain ⟨p, hp⟩ := red_redR r f c
  obtain ⟨q, hq⟩ := red_redR r' g c
  obtain ⟨h1, _, h3⟩ := red_unique hp hq (fun x => (ker_redR r c f c x).trans ((h x).trans (ker_redR r' c g c x).symm))
  have hld : ∀ i, i < (redR r f c).d → ld (redR r f c).f c i = ld (redR r' g c).f c i := fun i hi => by
    unfold ld
    congr 1
    have : ∀ n, n ≤ c → leastR (fun j => (redR r f c).f i j != 0) n = leastR (fun j => (redR r' g c).f i j != 0) n := by
      intro n
      induction n with
      | zero => intro _; rfl
      | succ n ih => intro hn; simp only [leastR, ih (by omega), h3 i n hi (by omega)]
    exact this c (Nat.le_refl _)
  have hfr : frees (redR r f c).f c (redR r f c).d c = frees (redR r' g c).f c (redR r' g c).d c := by
    unfold frees
    refine List.filter_congr fun k _ => ?_
    rw [Bool.eq_iff_iff, isFree_iff, isFree_iff, ← h1]
    exact ⟨fun h i hi => by rw [← hld i hi]; exact h i hi, fun h i hi => by rw [hld i hi]; exact h i hi⟩
  have hrow : ∀ i j, i < (frees (redR r f c).f c (redR r f c).d c).length → freeRows (redR r f c).f c (redR r f c).d i j = freeRows (redR r' g c).f c (redR r' g c).d i j := by
    intro i j hi
    simp only [freeRows, fvec]
    rw [← hfr, ← h1]
    congr 1
    exact sm_congr fun a ha => by rw [hld a ha, h3 a _ ha (frees_at hi).1]
  obtain ⟨p', hp'⟩ := red_redR (frees (redR r f c).f c (redR r f c).d c).length (freeRows (redR r f c).f c (redR r f c).d) c
  obtain ⟨q', hq'⟩ := red_redR (frees (redR r' g c).f c (redR r' g c).d c).length (freeRows (redR r' g c).f c (redR r' g c).d) c
  obtain ⟨k1, _, k3⟩ := red_unique hp' hq' (fun x => by
    rw [ker_redR, ker_redR]
    rw [← hfr]
    exact ⟨fun h i hi => by rw [← h i hi]; exact sm_congr fun j _ => by rw [hrow i j hi], fun h i hi => by rw [← h i hi]; exact sm_congr fun j _ => by rw [hrow i j hi]⟩)
  exact ⟨k1, k3⟩
end Fus
namespace Fus
/-! inverse matrices, as the programs make them: reduce a matrix beside the unit matrix -/
def wide (n : Nat) (A : Mx) : Mx := fun i j => if j < n then A i j else one i (j - n)
def invM (n : Nat) (A : Mx) : Mx := fun i j => cof n A j i * finv (D n A)
def invW (n : Nat) (A : Mx) : Mx := fun i j => if j < n then one i j else invM n A i (j - n)
theorem mm_invM {n : Nat} {A : Mx} (h : D n A ≠ 0) {i j : Nat} (hi : i < n) (hj : j < n) : mm n A (invM n A) i j = one i j := by
  have e : mm n A (invM n A) i j = sm n (fun k => A i k * cof n A j k) * finv (D n A) := by
    rw [← sm_mul']; exact sm_congr fun k _ => by show A i k * (cof n A j k * _) = _; grind
  rw [e, cramer A hi hj]
  unfold one
  split
  · exact mul_finv h
  · grind
theorem apply_zero {n : Nat} {A : Mx} (h : D n A ≠ 0) {x : Nat → F} (hx : Ker n n A x) {j : Nat} (hj : j < n) : x j = 0 :=
  Decidable.byContradiction fun hne => h (D_ker.2 ⟨x, hx, j, hj, hne⟩)
/-- the other product -/
theorem invM_mm {n : Nat} {A : Mx} (h : D n A ≠ 0) {i j : Nat} (hi : i < n) (hj : j < n) : mm n (invM n A) A i j = one i j := by
  have hk : Ker n n A fun k => mm n (invM n A) A k j - one k j := fun a ha => by
    have e : sm n (fun k => A a k * (mm n (invM n A) A k j - one k j)) = mm n A (mm n (invM n A) A) a j - mm n A one a j := by
      show _ = sm n _ - sm n _
      rw [← sm_sub]; exact sm_congr fun k _ => by grind
    rw [e, ← mm_assoc, mm_one A a hj, mm_congr (a' := one) (b' := A) (fun k hk => mm_invM h ha hk) (fun _ _ => rfl), one_mm A j ha]
    grind
  have := apply_zero h hk hi
  grind
theorem red_invW (n : Nat) (A : Mx) : Red n (n + n) (invW n A) n id :=
  ⟨Nat.le_refl _, fun i hi => by show i < n + n; omega, fun i j h _ => h,
    fun i a hi ha => by show invW n A a i = _; unfold invW; rw [if_pos hi]; rfl,
    fun i j hi hj => by show invW n A i j = 0; have hj' : j < i := hj; unfold invW; rw [if_pos (by omega)]; unfold one; rw [if_neg (by omega)],
    fun i j h1 h2 => by omega⟩
theorem ker_wide {n : Nat} (A : Mx) {x : Nat → F} : Ker n (n + n) (wide n A) x ↔ ∀ i, i < n → sm n (fun j => A i j * x j) + x (n + i) = 0 := by
  have e : ∀ i, i < n → sm (n + n) (fun j => wide n A i j * x j) = sm n (fun j => A i j * x j) + x (n + i) := fun i hi => by
    rw [sm_split, sm_congr (g := fun j => A i j * x j) (fun j hj => by show wide n A i j * _ = _; unfold wide; rw [if_pos hj])]
    rw [sm_one (n := n) (k := i) (f := fun j => wide n A i (n + j) * x (n + j)) hi (fun j hj hne => by show wide n A i (n + j) * _ = 0; unfold wide one; rw [if_neg (by omega), if_neg (by omega)]; grind)]
    show _ + wide n A i (n + i) * _ = _
    unfold wide one; rw [if_neg (by omega), if_pos (by omega)]; grind
  exact ⟨fun h i hi => by rw [← e i hi]; exact h i hi, fun h i hi => by rw [e i hi]; exact h i hi⟩
theorem ker_invW {n : Nat} (A : Mx) {x : Nat → F} : Ker n (n + n) (invW n A) x ↔ ∀ i, i < n → x i + sm n (fun j => invM n A i j * x (n + j)) = 0 := by
  have e : ∀ i, i < n → sm (n + n) (fun j => invW n A i j * x j) = x i + sm n (fun j => invM n A i j * x (n + j)) := fun i hi => by
    rw [sm_split, sm_one (k := i) hi (fun j hj hne => by show invW n A i j * _ = 0; unfold invW one; rw [if_pos hj, if_neg (fun e => hne e.symm)]; grind)]
    rw [sm_congr (n := n) (g := fun j => invM n A i j * x (n + j)) (fun j hj => by show invW n A i (n + j) * _ = _; unfold invW; rw [if_neg (by omega), show n + j - n = j by omega])]
    show invW n A i i * _ + _ = _
    unfold invW one; rw [if_pos hi, if_pos rfl]; grind
  exact ⟨fun h i hi => by rw [← e i hi]; exact h i hi, fun h i hi => by rw [e i hi]; exact h i hi⟩
/-- a matrix applied to a vector -/
def ap (n : Nat) (A : Mx) (x : Nat → F) (i : Nat) : F := sm n fun j => A i j * x j
theorem ap_mm (n : Nat) (A B : Mx) (x : Nat → F) (i : Nat) : ap n A (ap n B x) i = ap n (mm n A B) x i := mm_assoc n n A B (fun k _ => x k) i 0 |>.symm
theorem ap_add (n : Nat) (A : Mx) (x y : Nat → F) (i : Nat) : ap n A (fun j => x j + y j) i = ap n A x i + ap n A y i := by
  unfold ap; rw [← sm_add]; exact sm_congr fun j _ => by grind
theorem ap_congr {n : Nat} {A B : Mx} {x y : Nat → F} {i : Nat} (h : ∀ j, j < n → A i j = B i j) (h' : ∀ j, j < n → x j = y j) : ap n A x i = ap n B y i := sm_congr fun j hj => by rw [h j hj, h' j hj]
theorem ap_one {n : Nat} (x : Nat → F) {i : Nat} (hi : i < n) : ap n one x i = x i := one_mm (fun k _ => x k) 0 hi
theorem ker_same {n : Nat} {A : Mx} (h : D n A ≠ 0) (x : Nat → F) : Ker n (n + n) (wide n A) x ↔ Ker n (n + n) (invW n A) x := by
  rw [ker_wide, ker_invW]
  have hz : ∀ i, i < n → ap n A (fun j => x j + ap n (invM n A) (fun j => x (n + j)) j) i = ap n A x i + x (n + i) := fun i hi => by
    rw [ap_add, ap_mm, ap_congr (B := one) (y := fun j => x (n + j)) (fun j hj => mm_invM h hi hj) (fun _ _ => rfl), ap_one _ hi]
  constructor
  · intro hx i hi
    exact apply_zero h (x := fun j => x j + ap n (invM n A) (fun j => x (n + j)) j) (fun a ha => (hz a ha).trans (hx a ha)) hi
  · intro hx i hi
    refine (hz i hi).symm.trans ?_
    exact sm_zero fun j hj => by
      have : x j + ap n (invM n A) (fun j => x (n + j)) j = 0 := hx j hj
      show A i j * (x j + ap n (invM n A) (fun j => x (n + j)) j) = 0
      rw [this]; grind
/-- the reduced wide table of a matrix that has an inverse -/
theorem wide_full {n : Nat} {A : Mx} (h : D n A ≠ 0) : (redR n (wide n A) (n + n)).d = n ∧ ∀ i j, i < n → j < n + n → (redR n (wide n A) (n + n)).f i j = invW n A i j := by
  obtain ⟨p, hp⟩ := red_redR n (wide n A) (n + n)
  obtain ⟨h1, _, h3⟩ := red_unique hp (red_invW n A) (fun x => (ker_redR n (n + n) (wide n A) (n + n) x).trans (ker_same h x))
  exact ⟨h1, fun i j hi hj => h3 i j (by omega) hj⟩
/-- without an inverse a leading one is not in its place -/
theorem wide_gap {n : Nat} {A : Mx} (h : D n A = 0) : ∃ i, i < (redR n (wide n A) (n + n)).d ∧ (redR n (wide n A) (n + n)).f i i ≠ 1 := by
  refine Classical.byContradiction fun hno => ?_
  obtain ⟨p, hp⟩ := red_redR n (wide n A) (n + n)
  have hone : ∀ i, i < (redR n (wide n A) (n + n)).d → (redR n (wide n A) (n + n)).f i i = 1 := fun i hi => Decidable.byContradiction fun hne => hno ⟨i, hi, hne⟩
  have hle : ∀ i, i < (redR n (wide n A) (n + n)).d → p i ≤ i := fun i hi => Nat.le_of_not_lt fun hlt => by
    have := hp.left i i hi hlt
    rw [hone i hi] at this
    exact zero_ne_one this.symm
  have hge : ∀ i, i < (redR n (wide n A) (n + n)).d → i ≤ p i := fun i => by
    induction i with
    | zero => intro _; omega
    | succ i ih => intro hi; have := ih (by omega); have := hp.inc i (i + 1) (by omega) hi; omega
  have hpi : ∀ i, i < (redR n (wide n A) (n + n)).d → p i = i := fun i hi => Nat.le_antisymm (hle i hi) (hge i hi)
  have hd := hp.le
  have hv : ∀ k, k < n → Ker n (n + n) (wide n A) (fvec (redR n (wide n A) (n + n)).f (redR n (wide n A) (n + n)).d p (n + k)) := fun k hk =>
    (ker_redR n (n + n) (wide n A) (n + n) _).1 (fvec_ker hp (by omega))
  have hbot : ∀ k i, fvec (redR n (wide n A) (n + n)).f (redR n (wide n A) (n + n)).d p (n + k) (n + i) = one i k := fun k i => by
    unfold fvec one
    rw [sm_zero (fun a ha => by rw [if_neg (by rw [hpi a ha]; omega)])]
    by_cases e : i = k
    · rw [if_pos e, if_pos (by omega)]; grind
    · rw [if_neg e, if_neg (by omega)]; grind
  have hD : D n (mm n A fun j k => -fvec (redR n (wide n A) (n + n)).f (redR n (wide n A) (n + n)).d p (n + k) j) = D n one := D_congr fun i k hi hk => by
    have := (ker_wide A).1 (hv k hk) i hi
    rw [hbot] at this
    have e : mm n A (fun j k => -fvec (redR n (wide n A) (n + n)).f (redR n (wide n A) (n + n)).d p (n + k) j) i k = -(sm n fun j => A i j * fvec (redR n (wide n A) (n + n)).f (redR n (wide n A) (n + n)).d p (n + k) j) := by
      show sm n _ = _
      rw [show ∀ z : F, -z = -1 * z from fun z => by grind, ← sm_mul]; exact sm_congr fun j _ => by grind
    rw [e]; grind
  rw [D_mul, h, D_one] at hD
  exact zero_ne_one (by grind)
end Fus
namespace Fus
/-! tables one below the other -/
def glue (d : Nat) (f g : Mx) : Mx := fun i j => if i < d then f i j else g (i - d) j
theorem ker_glue {d n c : Nat} {f g : Mx} {x : Nat → F} : Ker (d + n) c (glue d f g) x ↔ Ker d c f x ∧ Ker n c g x := by
  constructor
  · intro h
    refine ⟨fun i hi => ?_, fun i hi => ?_⟩
    · have := h i (by omega)
      rw [← this]; exact sm_congr fun j _ => by show _ = (if _ then _ else _) * _; rw [if_pos hi]
    · have := h (d + i) (by omega)
      rw [← this]; exact sm_congr fun j _ => by show _ = (if _ then _ else _) * _; rw [if_neg (by omega), show d + i - d = i from by omega]
  · rintro ⟨h1, h2⟩ i hi
    by_cases e : i < d
    · rw [← h1 i e]; exact sm_congr fun j _ => by show (if _ then _ else _) * _ = _; rw [if_pos e]
    · rw [← h2 (i - d) (by omega)]; exact sm_congr fun j _ => by show (if _ then _ else _) * _ = _; rw [if_neg e]
/-- the first k tables with n rows each -/
def stk (n : Nat) (fs : Nat → Mx) : Nat → Mx
  | 0 => fun _ _ => 0
  | k + 1 => glue (k * n) (stk n fs k) (fs k)
theorem ker_stk {n c : Nat} {fs : Nat → Mx} {x : Nat → F} (k : Nat) : Ker (k * n) c (stk n fs k) x ↔ ∀ i, i < k → Ker n c (fs i) x := by
  induction k with
  | zero => exact ⟨fun _ i hi => by omega, fun _ i hi => by omega⟩
  | succ k ih =>
    rw [show (k + 1) * n = k * n + n from by rw [Nat.add_mul, Nat.one_mul]]
    show Ker _ _ (glue _ _ _) x ↔ _
    rw [ker_glue, ih]
    constructor
    · rintro ⟨h1, h2⟩ i hi
      by_cases e : i = k
      · rw [e]; exact h2
      · exact h1 i (by omega)
    · intro h; exact ⟨fun i hi => h i (by omega), h k (by omega)⟩
/-- .. reduced behind each -/
def cmn (n : Nat) (fs : Nat → Mx) : Nat → RS
  | 0 => ⟨fun _ _ => 0, 0, 1⟩
  | k + 1 => redR ((cmn n fs k).d + n) (glue (cmn n fs k).d (cmn n fs k).f (fs k)) n
theorem ker_first {r c d : Nat} {f : Mx} {p : Nat → Nat} (h : Red r c f d p) (x : Nat → F) : Ker d c f x ↔ Ker r c f x := by
  have hle := h.le
  constructor
  · intro hk i hi
    by_cases e : i < d
    · exact hk i e
    · exact sm_zero fun j hj => by rw [h.rest i j (by omega) hi hj]; grind
  · intro hk i hi; exact hk i (by omega)
theorem ker_cmn {n : Nat} {fs : Nat → Mx} {x : Nat → F} (k : Nat) : Ker (cmn n fs k).d n (cmn n fs k).f x ↔ ∀ i, i < k → Ker n n (fs i) x := by
  induction k with
  | zero => exact ⟨fun _ i hi => by omega, fun _ i hi => by have hi' : i < 0 := hi; omega⟩
  | succ k ih =>
    obtain ⟨p, hp⟩ := red_redR ((cmn n fs k).d + n) (glue (cmn n fs k).d (cmn n fs k).f (fs k)) n
    show Ker (redR _ _ _).d n (redR _ _ _).f x ↔ _
    rw [ker_first hp, ker_redR, ker_glue, ih]
    constructor
    · rintro ⟨h1, h2⟩ i hi
      by_cases e : i = k
      · rw [e]; exact h2
      · exact h1 i (by omega)
    · intro h; exact ⟨fun i hi => h i (by omega), h k (by omega)⟩
theorem cmn_le (n : Nat) (fs : Nat → Mx) (k : Nat) : (cmn n fs k).d ≤ n := by
  cases k with
  | zero => exact Nat.zero_le _
  | succ k => have := rank_nullity ((cmn n fs k).d + n) n (glue (cmn n fs k).d (cmn n fs k).f (fs k)); show (redR _ _ _).d ≤ n; omega
theorem ker_same_cmn {n : Nat} {fs : Nat → Mx} (k : Nat) (x : Nat → F) : Ker (k * n) n (stk n fs k) x ↔ Ker (cmn n fs k).d n (cmn n fs k).f x := (ker_stk k).trans (ker_cmn k).symm
/-- where every vector is led to 0 the kernel's basis is the unit matrix -/
theorem kerR_all {r c : Nat} {f : Mx} (h : ∀ x, Ker r c f x) : (kerR r c f).d = c ∧ ∀ i j, i < c → j < c → (kerR r c f).f i j = one i j := by
  have hd : (redR r f c).d = 0 := by
    rcases Nat.eq_zero_or_pos (redR r f c).d with h0 | h0
    · exact h0
    · exfalso
      obtain ⟨p, hp⟩ := red_redR r f c
      have hle := hp.le
      have h1 := (ker_redR r c f c (fun j => if j = p 0 then 1 else 0)).2 (h _) 0 (by omega)
      rw [sm_one (k := p 0) (hp.lt 0 h0) (fun i _ hne => by show _ * (if i = p 0 then (1 : F) else 0) = 0; rw [if_neg hne]; grind)] at h1
      have h2 : (redR r f c).f 0 (p 0) * (if p 0 = p 0 then (1 : F) else 0) = 0 := h1
      rw [if_pos rfl, hp.col 0 0 h0 (by omega), if_pos rfl] at h2
      exact zero_ne_one (by grind)
  have hrn := rank_nullity r c f
  have hk : (kerR r c f).d = c := by omega
  refine ⟨hk, ?_⟩
  have hf := kerR_full r c f
  obtain ⟨p, hp⟩ := red_redR (frees (redR r f c).f c (redR r f c).d c).length (freeRows (redR r f c).f c (redR r f c).d) c
  have hd2 : (redR (frees (redR r f c).f c (redR r f c).d c).length (freeRows (redR r f c).f c (redR r f c).d) c).d = c := hk
  rw [hd2] at hp
  have hlen : (frees (redR r f c).f c (redR r f c).d c).length = c := by omega
  have hp2 : Red c c (kerR r c f).f c p := by
    have : Red (frees (redR r f c).f c (redR r f c).d c).length c (kerR r c f).f c p := hp
    rw [hlen] at this; exact this
  exact hp2.eq_one
/-- a matrix has a kernel exactly if its determinant is 0 -/
theorem kerR_zero {n : Nat} {f : Mx} : (kerR n n f).d = 0 ↔ D n f ≠ 0 := by
  have h := rank_nullity n n f
  have h2 := @D_full n f
  constructor
  · intro e; exact h2.2 (by omega)
  · intro e; have := h2.1 e; omega
end Fus
namespace Fus
/-! zeros of polynomials as the programs find them -/
/-- the value of the coefficients from place k on -/
def hz (c : Nat → F) (z : F) (m k : Nat) : F := sm (m - k) fun i => c (k + i) * fp z i
theorem hz_top (c : Nat → F) (z : F) {m k : Nat} (h : m ≤ k) : hz c z m k = 0 := by
  unfold hz; rw [show m - k = 0 from by omega]; rfl
theorem hz_step (c : Nat → F) (z : F) {m k : Nat} (h : k < m) : hz c z m k = hz c z m (k + 1) * z + c k := by
  unfold hz
  obtain ⟨l, hl⟩ : ∃ l, m - k = l + 1 := ⟨m - k - 1, by omega⟩
  rw [hl, sm_head, show m - (k + 1) = l from by omega, ← sm_mul']
  have e : (sm l fun i => c (k + (i + 1)) * fp z (i + 1)) = sm l fun i => c (k + 1 + i) * fp z i * z := sm_congr fun i _ => by
    rw [show k + (i + 1) = k + 1 + i from by omega]; show _ * (fp z i * z) = _; grind
  rw [e]
  show c (k + 0) * 1 + _ = _
  rw [Nat.add_zero]; grind
theorem hz_ev (c : Nat → F) (z : F) (m : Nat) : hz c z m 0 = ev m c z := by
  unfold hz ev; exact sm_congr fun i _ => by rw [Nat.zero_add]
theorem hz_sdiv (c : Nat → F) (r : F) (m k : Nat) : hz c r m (k + 1) = sdiv c r m k := by
  unfold hz sdiv; rw [show m - (k + 1) = m - 1 - k from by omega]
theorem sdiv_lead (c : Nat → F) (r : F) {m : Nat} (h : 2 ≤ m) : sdiv c r m (m - 2) = c (m - 1) := by
  rw [← hz_sdiv, show m - 2 + 1 = m - 1 from by omega, hz_step c r (by omega), hz_top c r (by omega)]; grind
def fnat (k : Nat) : F := ofI (k : Int)
theorem fnat_toI {k : Nat} (h : (k : Int) < 55441) : toI (fnat k) = k := by unfold fnat; rw [toI_ofI]; omega
theorem fnat_val {k : Nat} (h : (k : Int) < 55441) : ((fnat k).val : Int) = k := by
  have := fnat_toI h
  unfold toI at this
  exact this
theorem fnat_of (x : F) : fnat x.val = x := by
  have := ofI_toI x
  unfold toI at this
  exact this
theorem fnat_eq {k : Nat} {x : F} (h : x.val = k) : fnat k = x := by rw [← h]; exact fnat_of x
/-- the zeros below k in ascending order -/
def rts (m : Nat) (c : Nat → F) : Nat → List Int
  | 0 => []
  | k + 1 => rts m c k ++ (if ev m c (fnat k) = 0 then [(k : Int)] else [])
theorem rts_yes {m : Nat} {c : Nat → F} {k : Nat} (h : ev m c (fnat k) = 0) : rts m c (k + 1) = rts m c k ++ [(k : Int)] := by show _ ++ (if _ then _ else _) = _; rw [if_pos h]
theorem rts_no {m : Nat} {c : Nat → F} {k : Nat} (h : ev m c (fnat k) ≠ 0) : rts m c (k + 1) = rts m c k := by show _ ++ (if _ then _ else _) = _; rw [if_neg h, List.append_nil]
theorem rts_length (m : Nat) (c : Nat → F) (k : Nat) : (rts m c k).length ≤ k := by
  induction k with
  | zero => exact Nat.le_refl _
  | succ k ih =>
    by_cases h : ev m c (fnat k) = 0
    · rw [rts_yes h, List.length_append]; show _ + 1 ≤ _; omega
    · rw [rts_no h]; omega
theorem rts_mem {m : Nat} {c : Nat → F} {k : Nat} {x : Int} : x ∈ rts m c k ↔ ∃ j : Nat, j < k ∧ x = j ∧ ev m c (fnat j) = 0 := by
  induction k with
  | zero => exact ⟨(fun h => by cases h), (fun ⟨j, h, _⟩ => by omega)⟩
  | succ k ih =>
    by_cases h : ev m c (fnat k) = 0
    · rw [rts_yes h, List.mem_append, List.mem_singleton, ih]
      constructor
      · rintro (⟨j, h1, h2, h3⟩ | h1)
        · exact ⟨j, by omega, h2, h3⟩
        · exact ⟨k, by omega, h1, h⟩
      · rintro ⟨j, h1, h2, h3⟩
        by_cases e : j = k
        · exact .inr (by rw [h2, e])
        · exact .inl ⟨j, by omega, h2, h3⟩
    · rw [rts_no h, ih]
      constructor
      · rintro ⟨j, h1, h2, h3⟩; exact ⟨j, by omega, h2, h3⟩
      · rintro ⟨j, h1, h2, h3⟩
        by_cases e : j = k
        · rw [e] at h3; exact absurd h3 h
        · exact ⟨j, by omega, h2, h3⟩
theorem rts_stop {m : Nat} {c : Nat → F} {k n : Nat} (hk : k ≤ n) (h : ∀ j, k ≤ j → j < n → ev m c (fnat j) ≠ 0) : rts m c n = rts m c k := by
  induction n with
  | zero => rw [show k = 0 from by omega]
  | succ n ih =>
    by_cases e : k = n + 1
    · rw [e]
    · rw [rts_no (h n (by omega) (by omega)), ih (by omega) (fun j h1 h2 => h j h1 (by omega))]
/-- what is left of a polynomial when the zeros below k are divided out -/
structure Left (m0 : Nat) (c0 : Nat → F) (m : Nat) (c : Nat → F) (k : Nat) : Prop where
  pos : 0 < m
  le : m ≤ m0
  lead : c (m - 1) = 1
  same : ∀ j : Nat, k ≤ j → (j : Int) < 55441 → (ev m0 c0 (fnat j) = 0 ↔ ev m c (fnat j) = 0)
theorem Left.start {m : Nat} {c : Nat → F} (h : 0 < m) (h1 : c (m - 1) = 1) : Left m c m c 0 := ⟨h, Nat.le_refl _, h1, fun _ _ _ => Iff.rfl⟩
theorem Left.next {m0 m : Nat} {c0 c : Nat → F} {k : Nat} (h : Left m0 c0 m c k) : Left m0 c0 m c (k + 1) := ⟨h.pos, h.le, h.lead, fun j h1 h2 => h.same j (by omega) h2⟩
theorem Left.div {m0 m : Nat} {c0 c : Nat → F} {k : Nat} (h : Left m0 c0 m c (k + 1)) (hm : 2 ≤ m) (hk : (k : Int) < 55441) (hz : ev m c (fnat k) = 0) : Left m0 c0 (m - 1) (sdiv c (fnat k) m) (k + 1) := by
  refine ⟨by omega, by have := h.le; omega, ?_, fun j h1 h2 => ?_⟩
  · rw [show m - 1 - 1 = m - 2 from by omega, sdiv_lead c _ hm]; exact h.lead
  · rw [h.same j h1 h2, ev_sdiv c (fnat k) (fnat j) m (by omega), hz]
    have hne : fnat j - fnat k ≠ 0 := fun e => by
      have : fnat j = fnat k := by grind
      have h3 := fnat_toI h2
      rw [this, fnat_toI hk] at h3
      omega
    constructor
    · intro e
      rcases mul_zero_or (a := fnat j - fnat k) (b := ev (m - 1) (sdiv c (fnat k) m) (fnat j)) (by grind) with h4 | h4
      · exact absurd h4 hne
      · exact h4
    · intro e; rw [e]; grind
theorem Left.one {m0 m : Nat} {c0 c : Nat → F} {k : Nat} (h : Left m0 c0 m c k) (hm : m = 1) {n : Nat} (hk : k ≤ n) (hn : (n : Int) ≤ 55441) : rts m0 c0 n = rts m0 c0 k := by
  refine rts_stop hk fun j h1 h2 => ?_
  intro e
  have h3 := (h.same j h1 (by omega)).1 e
  have h4 := h.lead
  subst hm
  have : ev 1 c (fnat j) = c 0 := by unfold ev sm sm fp; grind
  rw [this] at h3
  have h5 : c (1 - 1) = c 0 := rfl
  rw [h5, h3] at h4
  exact zero_ne_one h4
theorem ev_congr {m : Nat} {c d : Nat → F} (z : F) (h : ∀ i, i < m → c i = d i) : ev m c z = ev m d z := sm_congr fun i hi => by rw [h i hi]
theorem rts_congr {m : Nat} {c d : Nat → F} (h : ∀ i, i < m → c i = d i) (k : Nat) : rts m c k = rts m d k := by
  induction k with
  | zero => rfl
  | succ k ih => unfold rts; rw [ih, ev_congr _ h]
end Fus
