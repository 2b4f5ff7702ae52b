/- Plain algebra over the field with 55441 elements: inverse matrices by reduction beside the unit matrix. No program in sight. -/
import Derived.Test.YtjjoicbgnchkdaaMdt
namespace Fus
/-! inverse matrices, as the programs make them: reduce a matrix beside the unit matrix -/
def wide (n : Nat) (A : Mx) : Mx := fun i j => if j < n then A i j else one i (j - n)
def invM (n : Nat) (A : Mx) : Mx := fun i j => cof n A j i * finv (D n A)
def invW (n : Nat) (A : Mx) : Mx := fun i j => if j < n then one i j else invM n A i (j - n)
theorem mm_invM {n : Nat} {A : Mx} (h : D n A ≠ 0) {i j : Nat} (hi : i < n) (hj : j < n) : mm n A (invM n A) i j = one i j := by
  have e : mm n A (invM n A) i j = sm n (fun k => A i k * cof n A j k) * finv (D n A) := by
    rw [← sm_mul']; exact sm_congr fun k _ => by show A i k * (cof n A j k * _) = _; grind
  rw [e, cramer A hi hj]
  unfold one
  split
  · exact mul_finv h
  · grind
theorem apply_zero {n : Nat} {A : Mx} (h : D n A ≠ 0) {x : Nat → F} (hx : Ker n n A x) {j : Nat} (hj : j < n) : x j = 0 :=
  Decidable.byContradiction fun hne => h (D_ker.2 ⟨x, hx, j, hj, hne⟩)
/-- the other product -/
theorem invM_mm {n : Nat} {A : Mx} (h : D n A ≠ 0) {i j : Nat} (hi : i < n) (hj : j < n) : mm n (invM n A) A i j = one i j := by
  have hk : Ker n n A fun k => mm n (invM n A) A k j - one k j := fun a ha => by
    have e : sm n (fun k => A a k * (mm n (invM n A) A k j - one k j)) = mm n A (mm n (invM n A) A) a j - mm n A one a j := by
      show _ = sm n _ - sm n _
      rw [← sm_sub]; exact sm_congr fun k _ => by grind
    rw [e, ← mm_assoc, mm_one A a hj, mm_congr (a' := one) (b' := A) (fun k hk => mm_invM h ha hk) (fun _ _ => rfl), one_mm A j ha]
    grind
  have := apply_zero h hk hi
  grind
theorem red_invW (n : Nat) (A : Mx) : Red n (n + n) (invW n A) n id :=
  ⟨Nat.le_refl _, fun i hi => by show i < n + n; omega, fun i j h _ => h,
    fun i a hi ha => by show invW n A a i = _; unfold invW; rw [if_pos hi]; rfl,
    fun i j hi hj => by show invW n A i j = 0; have hj' : j < i := hj; unfold invW; rw [if_pos (by omega)]; unfold one; rw [if_neg (by omega)],
    fun i j h1 h2 => by omega⟩
theorem ker_wide {n : Nat} (A : Mx) {x : Nat → F} : Ker n (n + n) (wide n A) x ↔ ∀ i, i < n → sm n (fun j => A i j * x j) + x (n + i) = 0 := by
  have e : ∀ i, i < n → sm (n + n) (fun j => wide n A i j * x j) = sm n (fun j => A i j * x j) + x (n + i) := fun i hi => by
    rw [sm_split, sm_congr (g := fun j => A i j * x j) (fun j hj => by show wide n A i j * _ = _; unfold wide; rw [if_pos hj])]
    rw [sm_one (n := n) (k := i) (f := fun j => wide n A i (n + j) * x (n + j)) hi (fun j hj hne => by show wide n A i (n + j) * _ = 0; unfold wide one; rw [if_neg (by omega), if_neg (by omega)]; grind)]
    show _ + wide n A i (n + i) * _ = _
    unfold wide one; rw [if_neg (by omega), if_pos (by omega)]; grind
  exact ⟨fun h i hi => by rw [← e i hi]; exact h i hi, fun h i hi => by rw [e i hi]; exact h i hi⟩
theorem ker_invW {n : Nat} (A : Mx) {x : Nat → F} : Ker n (n + n) (invW n A) x ↔ ∀ i, i < n → x i + sm n (fun j => invM n A i j * x (n + j)) = 0 := by
  have e : ∀ i, i < n → sm (n + n) (fun j => invW n A i j * x j) = x i + sm n (fun j => invM n A i j * x (n + j)) := fun i hi => by
    rw [sm_split, sm_one (k := i) hi (fun j hj hne => by show invW n A i j * _ = 0; unfold invW one; rw [if_pos hj, if_neg (fun e => hne e.symm)]; grind)]
    rw [sm_congr (n := n) (g := fun j => invM n A i j * x (n + j)) (fun j hj => by show invW n A i (n + j) * _ = _; unfold invW; rw [if_neg (by omega), show n + j - n = j by omega])]
    show invW n A i i * _ + _ = _
    unfold invW one; rw [if_pos hi, if_pos rfl]; grind
  exact ⟨fun h i hi => by rw [← e i hi]; exact h i hi, fun h i hi => by rw [e i hi]; exact h i hi⟩
/-- a matrix applied to a vector -/
def ap (n : Nat) (A : Mx) (x : Nat → F) (i : Nat) : F := sm n fun j => A i j * x j
theorem ap_mm (n : Nat) (A B : Mx) (x : Nat → F) (i : Nat) : ap n A (ap n B x) i = ap n (mm n A B) x i := mm_assoc n n A B (fun k _ => x k) i 0 |>.symm
theorem ap_add (n : Nat) (A : Mx) (x y : Nat → F) (i : Nat) : ap n A (fun j => x j + y j) i = ap n A x i + ap n A y i := by
  unfold ap; rw [← sm_add]; exact sm_congr fun j _ => by grind
theorem ap_congr {n : Nat} {A B : Mx} {x y : Nat → F} {i : Nat} (h : ∀ j, j < n → A i j = B i j) (h' : ∀ j, j < n → x j = y j) : ap n A x i = ap n B y i := sm_congr fun j hj => by rw [h j hj, h' j hj]
theorem ap_one {n : Nat} (x : Nat → F) {i : Nat} (hi : i < n) : ap n one x i = x i := one_mm (fun k _ => x k) 0 hi
theorem ker_same {n : Nat} {A : Mx} (h : D n A ≠ 0) (x : Nat → F) : Ker n (n + n) (wide n A) x ↔ Ker n (n + n) (invW n A) x := by
  rw [ker_wide, ker_invW]
  have hz : ∀ i, i < n → ap n A (fun j => x j + ap n (invM n A) (fun j => x (n + j)) j) i = ap n A x i + x (n + i) := fun i hi => by
    rw [ap_add, ap_mm, ap_congr (B := one) (y := fun j => x (n + j)) (fun j hj => mm_invM h hi hj) (fun _ _ => rfl), ap_one _ hi]
  constructor
  · intro hx i hi
    exact apply_zero h (x := fun j => x j + ap n (invM n A) (fun j => x (n + j)) j) (fun a ha => (hz a ha).trans (hx a ha)) hi
  · intro hx i hi
    refine (hz i hi).symm.trans ?_
    exact sm_zero fun j hj => by
      have : x j + ap n (invM n A) (fun j => x (n + j)) j = 0 := hx j hj
      show A i j * (x j + ap n (invM n A) (fun j => x (n + j)) j) = 0
      rw [this]; grind
/-- the reduced wide table of a matrix that has an inverse -/
theorem wide_full {n : Nat} {A : Mx} (h : D n A ≠ 0) : (redR n (wide n A) (n + n)).d = n ∧ ∀ i j, i < n → j < n + n → (redR n (wide n A) (n + n)).f i j = invW n A i j := by
  obtain ⟨p, hp⟩ := red_redR n (wide n A) (n + n)
  obtain ⟨h1, _, h3⟩ := red_unique hp (red_invW n A) (fun x => (ker_redR n (n + n) (wide n A) (n + n) x).trans (ker_same h x))
  exact ⟨h1, fun i j hi hj => h3 i j (by omega) hj⟩
/-- without an inverse a leading one is not in its place -/
theorem wide_gap {n : Nat} {A : Mx} (h : D n A = 0) : ∃ i, i < (redR n (wide n A) (n + n)).d ∧ (redR n (wide n A) (n + n)).f i i ≠ 1 := by
  refine Classical.byContradiction fun hno => ?_
  obtain ⟨p, hp⟩ := red_redR n (wide n A) (n + n)
  have hone : ∀ i, i < (redR n (wide n A) (n + n)).d → (redR n (wide n A) (n + n)).f i i = 1 := fun i hi => Decidable.byContradiction fun hne => hno ⟨i, hi, hne⟩
  have hle : ∀ i, i < (redR n (wide n A) (n + n)).d → p i ≤ i := fun i hi => Nat.le_of_not_lt fun hlt => by
    have := hp.left i i hi hlt
    rw [hone i hi] at this
    exact zero_ne_one this.symm
  have hge : ∀ i, i < (redR n (wide n A) (n + n)).d → i ≤ p i := fun i => by
    induction i with
    | zero => intro _; omega
    | succ i ih => intro hi; have := ih (by omega); have := hp.inc i (i + 1) (by omega) hi; omega
  have hpi : ∀ i, i < (redR n (wide n A) (n + n)).d → p i = i := fun i hi => Nat.le_antisymm (hle i hi) (hge i hi)
  have hd := hp.le
  have hv : ∀ k, k < n → Ker n (n + n) (wide n A) (fvec (redR n (wide n A) (n + n)).f (redR n (wide n A) (n + n)).d p (n + k)) := fun k hk =>
    (ker_redR n (n + n) (wide n A) (n + n) _).1 (fvec_ker hp (by omega))
  have hbot : ∀ k i, fvec (redR n (wide n A) (n + n)).f (redR n (wide n A) (n + n)).d p (n + k) (n + i) = one i k := fun k i => by
    unfold fvec one
    rw [sm_zero (fun a ha => by rw [if_neg (by rw [hpi a ha]; omega)])]
    by_cases e : i = k
    · rw [if_pos e, if_pos (by omega)]; grind
    · rw [if_neg e, if_neg (by omega)]; grind
  have hD : D n (mm n A fun j k => -fvec (redR n (wide n A) (n + n)).f (redR n (wide n A) (n + n)).d p (n + k) j) = D n one := D_congr fun i k hi hk => by
    have := (ker_wide A).1 (hv k hk) i hi
    rw [hbot] at this
    have e : mm n A (fun j k => -fvec (redR n (wide n A) (n + n)).f (redR n (wide n A) (n + n)).d p (n + k) j) i k = -(sm n fun j => A i j * fvec (redR n (wide n A) (n + n)).f (redR n (wide n A) (n + n)).d p (n + k) j) := by
      show sm n _ = _
      rw [show ∀ z : F, -z = -1 * z from fun z => by grind, ← sm_mul]; exact sm_congr fun j _ => by grind
    rw [e]; grind
  rw [D_mul, h, D_one] at hD
  exact zero_ne_one (by grind)
end Fus
