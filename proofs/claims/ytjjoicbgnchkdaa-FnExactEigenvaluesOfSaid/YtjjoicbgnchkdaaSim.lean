/- Plain algebra over the field with 55441 elements: similar tables of Hessenberg. No program in sight. -/
import Derived.Test.YtjjoicbgnchkdaaHes
namespace Fus
/-! tables led to the form of Hessenberg by similar ones -/
def swapC (f : Mx) (a b : Nat) : Mx := fun i j => if j = a then f i b else if j = b then f i a else f i j
/-- row i less c times row p; then column p plus c times column i -/
def simI (h : Mx) (p i : Nat) (c : F) : Mx := fun a b =>
  let h1 : Mx := fun a b => if a = i then h i b + (-c) * h p b else h a b
  if b = p then h1 a b + c * h1 a i else h1 a b
def elimH (g : Mx) (k : Nat) (v : F) : Nat → Mx
  | 0 => g
  | m + 1 => simI (elimH g k v m) (k + 1) (k + 2 + m) (elimH g k v m (k + 2 + m) k * v)
def hstep (n k : Nat) (h : Mx) : Mx :=
  match pivot h k (k + 1) n with
  | none => h
  | some m =>
    let g := swapC (swapR h (k + 1) (k + 1 + m)) (k + 1) (k + 1 + m)
    elimH g k (finv (g (k + 1) k)) (n - (k + 2))
def hess (n : Nat) (A : Mx) : Nat → Mx
  | 0 => A
  | k + 1 => hstep n k (hess n A k)
theorem D_swapC {n : Nat} {a b : Nat} (ha : a < n) (hb : b < n) (hab : a ≠ b) (f : Mx) : D n (swapC f a b) = - D n f := by
  have e : D n (swapC f a b) = D n (tr (swapR (tr f) a b)) := D_congr fun i j _ _ => by simp only [swapC, tr, swapR]
  rw [e, D_tr, (D_alt n).swap ha hb hab, D_tr]
theorem chi_swap {n : Nat} {a b : Nat} (ha : a < n) (hb : b < n) (h : Mx) (z : F) : chi n (swapC (swapR h a b) a b) z = chi n h z := by
  by_cases hab : a = b
  · subst hab
    have e : swapC (swapR h a a) a a = h := by
      funext i j; simp only [swapC, swapR]
      by_cases e1 : i = a <;> by_cases e2 : j = a <;> simp [e1, e2]
    rw [e]
  · have e : xz (swapC (swapR h a b) a b) z = swapC (swapR (xz h z) a b) a b := by
      funext i j; simp only [swapC, swapR, xz]; grind
    show D n (xz (swapC (swapR h a b) a b) z) = D n (xz h z)
    rw [e, D_swapC ha hb hab, (D_alt n).swap ha hb hab]; grind
theorem chi_sim {n : Nat} {p i : Nat} (hp : p < n) (hi : i < n) (hne : i ≠ p) (h : Mx) (c z : F) : chi n (simI h p i c) z = chi n h z := by
  have e1 : D n (setR (xz h z) i fun j => xz h z i j + (-c) * xz h z p j) = D n (xz h z) := (D_alt n).add hi hp hne _ _
  generalize hX : (setR (xz h z) i fun j => xz h z i j + (-c) * xz h z p j) = X at e1
  have e2 : D n (setR (tr X) p fun j => tr X p j + c * tr X i j) = D n (tr X) := (D_alt n).add hp hi (fun e => hne e.symm) _ _
  have e3 : xz (simI h p i c) z = tr (setR (tr X) p fun j => tr X p j + c * tr X i j) := by
    funext a b
    rw [← hX]
    simp only [xz, simI, tr, setR]
    by_cases h1 : b = p
    · simp only [h1, if_true]
      by_cases h2 : a = i
      · simp only [h2, if_true, if_neg hne]; grind
      · by_cases h3 : a = p
        · simp only [h3, if_true, if_neg (fun e : p = i => hne e.symm)]; grind
        · simp only [if_neg h2, if_neg h3]; grind
    · simp only [if_neg h1]
      by_cases h2 : a = i
      · simp only [h2, if_true, if_neg (fun e : p = b => h1 e.symm)]; grind
      · simp only [if_neg h2]
  show D n (xz (simI h p i c) z) = D n (xz h z)
  rw [e3, D_tr, e2, D_tr, e1]
theorem chi_elim {n k : Nat} (hk : k + 1 < n) (g : Mx) (v z : F) : ∀ m, k + 2 + m ≤ n → chi n (elimH g k v m) z = chi n g z := by
  intro m
  induction m with
  | zero => intro _; rfl
  | succ m ih => intro hm; show chi n (simI _ _ _ _) z = _; rw [chi_sim hk (by omega) (by omega), ih (by omega)]
theorem chi_step {n k : Nat} (hk : k + 2 ≤ n) (h : Mx) (z : F) : chi n (hstep n k h) z = chi n h z := by
  unfold hstep
  rcases pivot_cases h k (k + 1) n with ⟨m, h1, _, _, h4⟩ | ⟨_, h2⟩
  · rw [h4]; exact (chi_elim (by omega) _ _ z _ (by omega)).trans (chi_swap (by omega) h1 h z)
  · rw [h2]
theorem chi_hess {n : Nat} (A : Mx) (z : F) : ∀ k, k + 1 ≤ n → chi n (hess n A k) z = chi n A z := by
  intro k
  induction k with
  | zero => intro _; rfl
  | succ k ih => intro hk; show chi n (hstep n k _) z = _; rw [chi_step (by omega), ih (by omega)]
/-- zeros under the diagonal, in the first columns -/
def Hes (n k : Nat) (h : Mx) : Prop := ∀ i j, j < k → j + 1 < i → i < n → h i j = 0
theorem hes_swap {n k m : Nat} {h : Mx} (hh : Hes n k h) (hm : k + 1 + m < n) : Hes n k (swapC (swapR h (k + 1) (k + 1 + m)) (k + 1) (k + 1 + m)) := by
  intro i j hj hji hi
  simp only [swapC, swapR]
  rw [if_neg (by omega), if_neg (by omega)]
  by_cases e1 : i = k + 1
  · rw [if_pos e1]; exact hh _ _ hj (by omega) hm
  · rw [if_neg e1]
    by_cases e2 : i = k + 1 + m
    · rw [if_pos e2]; exact hh _ _ hj (by omega) (by omega)
    · rw [if_neg e2]; exact hh _ _ hj hji hi
theorem elim_row {g : Mx} {k : Nat} {v : F} (m : Nat) : ∀ a j, a < k + 2 → j ≤ k → elimH g k v m a j = g a j := by
  induction m with
  | zero => intro a j _ _; rfl
  | succ m ih =>
    intro a j ha hj
    show (if j = k + 1 then _ else if a = k + 2 + m then _ else elimH g k v m a j) = _
    rw [if_neg (by omega), if_neg (by omega), ih a j ha hj]
theorem hes_elim {n k : Nat} {g : Mx} {v : F} (hh : Hes n k g) (hv : g (k + 1) k * v = 1) : ∀ m, k + 2 + m ≤ n → Hes n k (elimH g k v m) ∧ (∀ i, k + 2 ≤ i → i < k + 2 + m → elimH g k v m i k = 0) := by
  intro m
  induction m with
  | zero => intro _; exact ⟨hh, fun i h1 h2 => by omega⟩
  | succ m ih =>
    intro hm
    obtain ⟨i1, i2⟩ := ih (by omega)
    have hb : ∀ i j, j ≤ k → elimH g k v (m + 1) i j = if i = k + 2 + m then elimH g k v m (k + 2 + m) j + (-(elimH g k v m (k + 2 + m) k * v)) * elimH g k v m (k + 1) j else elimH g k v m i j := by
      intro i j hj
      show (if j = k + 1 then _ else (if i = k + 2 + m then _ else _)) = _
      rw [if_neg (by omega)]
    refine ⟨fun i j hj hji hi => ?_, fun i h1 h2 => ?_⟩
    · rw [hb i j (by omega)]
      by_cases e : i = k + 2 + m
      · rw [if_pos e, i1 (k + 2 + m) j hj (by omega) (by omega), i1 (k + 1) j hj (by omega) (by omega)]; grind
      · rw [if_neg e]; exact i1 i j hj hji hi
    · rw [hb i k (by omega)]
      by_cases e : i = k + 2 + m
      · rw [if_pos e, elim_row m (k + 1) k (by omega) (by omega)]; grind
      · rw [if_neg e]; exact i2 i h1 (by omega)
theorem hes_step {n k : Nat} {h : Mx} (hh : Hes n k h) (hk : k + 2 ≤ n) : Hes n (k + 1) (hstep n k h) := by
  unfold hstep
  rcases pivot_cases h k (k + 1) n with ⟨m, h1, h2, _, h4⟩ | ⟨h1, h2⟩
  · rw [h4]
    have hp : swapC (swapR h (k + 1) (k + 1 + m)) (k + 1) (k + 1 + m) (k + 1) k ≠ 0 := by
      have e : swapC (swapR h (k + 1) (k + 1 + m)) (k + 1) (k + 1 + m) (k + 1) k = h (k + 1 + m) k := by
        simp only [swapC, swapR]; rw [if_neg (by omega), if_neg (by omega), if_true]
      rw [e]; exact h2
    obtain ⟨a1, a2⟩ := hes_elim (hes_swap hh h1) (mul_finv hp) (n - (k + 2)) (by omega)
    intro i j hj hji hi
    by_cases e : j = k
    · subst e; exact a2 i (by omega) (by omega)
    · exact a1 i j (by omega) hji hi
  · rw [h2]
    intro i j hj hji hi
    by_cases e : j = k
    · subst e; exact h1 i (by omega) hi
    · exact hh i j (by omega) hji hi
theorem hes_hess {n : Nat} (A : Mx) : ∀ k, k + 1 ≤ n → Hes n k (hess n A k) := by
  intro k
  induction k with
  | zero => intro _ i j hj; omega
  | succ k ih => intro hk; exact hes_step (ih (by omega)) (by omega)
/-- the characteristic polynomial by Hessenberg -/
def hpoly (n : Nat) (A : Mx) : Nat → F := hp (hess n A (n - 2)) n n
theorem hess_full {n : Nat} (A : Mx) : ∀ i j, j + 1 < i → i < n → hess n A (n - 2) i j = 0 := by
  intro i j hji hi
  exact hes_hess A (n - 2) (by omega) i j (by omega) hji hi
theorem chi_hpoly {n : Nat} (hn : 1 ≤ n) (A : Mx) (z : F) : chi n A z = ev (n + 1) (hpoly n A) z := by
  rw [← chi_hess A z (n - 2) (by omega)]
  show D n (xz _ z) = _
  rw [← D_tr, hess_chi (N := n) (fun i j h1 h2 => hess_full A i j h1 h2) z n (Nat.le_refl _)]
  rfl
/-- both reckon the same polynomial -/
theorem fl_hpoly {n : Nat} (hn : 1 ≤ n) (hn' : n ≤ 1000) (A : Mx) {k : Nat} (hk : k ≤ n) : (fl n A k).1 = hpoly n A (n - k) :=
  fl_coeffs hn' (chi_hpoly hn A) (fun l hl => hp_deg _ n l hl) (hp_lead _ n) k hk
end Fus
