/- Plain algebra over the field with 55441 elements: characteristic polynomials by traces and by tables of Hessenberg. No program in sight. -/
import Derived.Test.YtjjoicbgnchkdaaChr
namespace Fus
/-! the polynomial by traces -/
/-- coefficients from above, and the tables made on the way: l less than n coefficients -/
def fl (n : Nat) (A : Mx) : Nat → F × Mx
  | 0 => (1, fun _ _ => 0)
  | k + 1 =>
    let M : Mx := fun i j => mm n A (fl n A k).2 i j + (if i = j then (fl n A k).1 else 0)
    (-(trc n (mm n A M)) * finv (nf (k + 1)), M)
theorem fl_succ (n : Nat) (A : Mx) (k : Nat) : (fl n A (k + 1)).2 = (fun i j => mm n A (fl n A k).2 i j + (if i = j then (fl n A k).1 else 0)) ∧ (fl n A (k + 1)).1 = -(trc n (mm n A (fl n A (k + 1)).2)) * finv (nf (k + 1)) := ⟨rfl, rfl⟩
theorem trc_congr {n : Nat} {A B : Mx} (h : ∀ i, i < n → A i i = B i i) : trc n A = trc n B := sm_congr h
theorem sm_const (n : Nat) (a : F) : (sm n fun _ => a) = nf n * a := by
  induction n with
  | zero => simp only [sm, nf]; grind
  | succ n ih => rw [sm_succ, ih]; show _ = (nf n + 1) * a; grind
theorem nf_add (m n : Nat) : nf (m + n) = nf m + nf n := by
  induction n with
  | zero => show nf m = nf m + 0; grind
  | succ n ih => show nf (m + n) + 1 = nf m + (nf n + 1); rw [ih]; grind
theorem fl_coeffs {n : Nat} {A : Mx} {c : Nat → F} (hn : n ≤ 1000) (hc : ∀ z, chi n A z = ev (n + 1) c z) (hz : ∀ l, n < l → c l = 0) (h1 : c n = 1) : ∀ k, k ≤ n → (fl n A k).1 = c (n - k) := by
  obtain ⟨C, hC0, hCs, hCz, hCt⟩ := cof_coeffs hn hc hz
  have main : ∀ k, k ≤ n → (fl n A k).1 = c (n - k) ∧ ∀ i j, i < n → j < n → (fl n A k).2 i j = C (n - k) i j := by
    intro k
    induction k with
    | zero => intro _; exact ⟨h1.symm, fun i j hi hj => (hC0 n i j hi hj (Nat.le_refl _)).symm⟩
    | succ k ih =>
      intro hk
      obtain ⟨i1, i2⟩ := ih (by omega)
      have e : n - (k + 1) + 1 = n - k := by omega
      have hM : ∀ i j, i < n → j < n → (fl n A (k + 1)).2 i j = C (n - (k + 1)) i j := by
        intro i j hi hj
        rw [(fl_succ n A k).1]
        have h2 := hCs (n - (k + 1)) i j hi hj
        rw [e] at h2
        show mm n A (fl n A k).2 i j + (if i = j then (fl n A k).1 else 0) = _
        rw [i1, mm_congr (b' := C (n - k)) (fun _ _ => rfl) (fun l hl => i2 l j hl hj)]
        grind
      refine ⟨?_, hM⟩
      rw [(fl_succ n A k).2]
      have ht : trc n (mm n A (fl n A (k + 1)).2) = trc n (mm n A (C (n - (k + 1)))) := trc_congr fun i hi => mm_congr (fun _ _ => rfl) (fun l hl => hM l i hl hi)
      rw [ht]
      -- the trace of A C l is (l - n) c l
      have hk1 := mul_finv (nf_ne (k := k + 1) (by omega) (by omega))
      generalize finv (nf (k + 1)) = v at hk1 ⊢
      have htr : trc n (mm n A (C (n - (k + 1)))) = (nf (n - (k + 1)) - nf n) * c (n - (k + 1)) := by
        rcases Nat.eq_zero_or_pos (n - (k + 1)) with h0 | h0
        · rw [h0]
          have : trc n (mm n A (C 0)) = sm n fun _ => -1 * c 0 := sm_congr fun i hi => by have := hCz i i hi hi; rw [if_pos rfl] at this; grind
          rw [this, sm_const]; show _ = (0 - nf n) * _; grind
        · obtain ⟨l, hl⟩ : ∃ l, n - (k + 1) = l + 1 := ⟨n - (k + 1) - 1, by omega⟩
          rw [hl]
          have : trc n (mm n A (C (l + 1))) = sm n fun i => C l i i - c (l + 1) := sm_congr fun i hi => by have := hCs l i i hi hi; rw [if_pos rfl] at this; grind
          rw [this, sm_sub, sm_const]
          have h3 : (sm n fun i => C l i i) = nf (l + 1) * c (l + 1) := hCt l
          rw [h3]; grind
      have hnf : nf n = nf (n - (k + 1)) + nf (k + 1) := by rw [← nf_add]; congr 1; omega
      rw [htr, hnf]
      grind
  exact fun k hk => (main k hk).1

/-! the polynomial of a table of Hessenberg -/
/-- the product of m numbers under the diagonal, from row i + 1 on -/
def prd (h : Mx) (i : Nat) : Nat → F
  | 0 => 1
  | m + 1 => prd h i m * h (i + m + 1) (i + m)
theorem hess_last {X : Mx} {k : Nat} (hX : ∀ i j, j + 1 < i → i ≤ k + 1 → X i j = 0) (v : Nat → F) :
    D (k + 2) (setR (tr X) (k + 1) v) = v (k + 1) * D (k + 1) (tr X) - X (k + 1) k * D (k + 1) (setR (tr X) k v) := by
  have m1 : D (k + 1) (minor (setR (tr X) (k + 1) v) (k + 1)) = D (k + 1) (tr X) := D_congr fun a b ha _ => by
    simp only [minor]; rw [show skip (k + 1) a = a from by simp [skip, ha], setR_ne (by omega)]
  have m2 : D (k + 1) (minor (setR (tr X) (k + 1) v) k) = D (k + 1) (setR (tr X) k v) := D_congr fun a b ha _ => by
    simp only [minor]
    by_cases e : a = k
    · subst e; rw [show skip a a = a + 1 from by simp [skip], setR_at, setR_at]
    · rw [show skip k a = a from by unfold skip; rw [if_pos (by omega)], setR_ne (by omega), setR_ne e]
  rw [D_succ, sm_two (k := k + 1) (l := k) (by omega) (by omega) (by omega), m1, m2, setR_at, setR_ne (by omega)]
  · have s1 : sgn (k + 1 + (k + 1)) = 1 := by unfold sgn; rw [if_pos (by omega)]
    have s2 : sgn (k + 1 + k) = -1 := by unfold sgn; rw [if_neg (by omega)]
    rw [s1, s2]
    show 1 * v (k + 1) * _ + -1 * X (k + 1) k * _ = _
    grind
  · intro i hi h1 h2
    rw [setR_ne h1]
    show sgn _ * X (k + 1) i * _ = 0
    rw [hX (k + 1) i (by omega) (by omega)]; grind
theorem hess_sum {X : Mx} {N : Nat} (hX : ∀ i j, j + 1 < i → i < N → X i j = 0) (v : Nat → F) : ∀ k, k < N →
    D (k + 1) (setR (tr X) k v) = v k * D k (tr X) + sm k fun i => prd (fun a b => - X a b) i (k - i) * v i * D i (tr X) := by
  intro k
  induction k with
  | zero =>
    intro _
    show (0 : F) + sgn 0 * (setR (tr X) 0 v 0 0) * 1 = v 0 * 1 + 0
    rw [setR_at, show sgn 0 = 1 from rfl]; grind
  | succ k ih =>
    intro hk
    rw [hess_last (fun i j h1 h2 => hX i j h1 (by omega)) v, ih (by omega), sm_succ]
    have e : (sm k fun i => prd (fun a b => - X a b) i (k + 1 - i) * v i * D i (tr X)) = - X (k + 1) k * sm k fun i => prd (fun a b => - X a b) i (k - i) * v i * D i (tr X) := by
      rw [← sm_mul]
      exact sm_congr fun i hi => by
        rw [show k + 1 - i = (k - i) + 1 from by omega]
        show prd _ i (k - i) * (- X (i + (k - i) + 1) (i + (k - i))) * _ * _ = _
        rw [show i + (k - i) = k from by omega]; grind
    rw [e, show k + 1 - k = 0 + 1 from by omega]
    show _ = _ + (_ + 1 * (- X (k + 0 + 1) (k + 0)) * v k * D k (tr X))
    rw [Nat.add_zero]; grind
/-- the polynomials of the upper left parts: table of the first ones, as coefficients -/
def hp (h : Mx) : Nat → Nat → Nat → F
  | 0 => fun _ l => if l = 0 then 1 else 0
  | k + 1 => fun i l => if i = k + 1 then (if l = 0 then 0 else hp h k k (l - 1)) - h k k * hp h k k l - sm k (fun i => prd h i (k - i) * h i k * hp h k i l) else hp h k i l
theorem hp_old (h : Mx) {k i : Nat} (hi : i ≤ k) : hp h (k + 1) i = hp h k i := by
  funext l; show (if i = k + 1 then _ else hp h k i l) = _; rw [if_neg (by omega)]
theorem hp_new (h : Mx) (k l : Nat) : hp h (k + 1) (k + 1) l = (if l = 0 then 0 else hp h k k (l - 1)) - h k k * hp h k k l - sm k (fun i => prd h i (k - i) * h i k * hp h k i l) := by
  show (if k + 1 = k + 1 then _ else _) = _; rw [if_pos rfl]
theorem hp_same (h : Mx) {k i : Nat} (hi : i ≤ k) : hp h k i = hp h i i := by
  induction k with
  | zero => rw [show i = 0 from by omega]
  | succ k ih =>
    by_cases e : i = k + 1
    · rw [e]
    · rw [hp_old h (by omega), ih (by omega)]
theorem hp_deg (h : Mx) : ∀ k l, k < l → hp h k k l = 0 := by
  intro k
  induction k using Nat.strongRecOn with
  | _ k ih =>
    cases k with
    | zero => intro l hl; show (if l = 0 then 1 else 0) = 0; rw [if_neg (by omega)]
    | succ k =>
      intro l hl
      rw [hp_new, if_neg (by omega), ih k (by omega) (l - 1) (by omega), ih k (by omega) l (by omega), sm_zero (fun i hi => by rw [hp_same h (by omega), ih i (by omega) l (by omega)]; grind)]
      grind
theorem hp_lead (h : Mx) : ∀ k, hp h k k k = 1 := by
  intro k
  induction k with
  | zero => rfl
  | succ k ih =>
    rw [hp_new, if_neg (by omega), show k + 1 - 1 = k from rfl, ih, hp_deg h k (k + 1) (by omega), sm_zero (fun i hi => by rw [hp_same h (by omega), hp_deg h i (k + 1) (by omega)]; grind)]
    grind
theorem ev_ext {m n : Nat} {c : Nat → F} (z : F) (h : m ≤ n) (hz : ∀ i, m ≤ i → c i = 0) : ev n c z = ev m c z := by
  rw [← ev_more c z h]
  exact sm_congr fun i _ => by
    by_cases e : i < m
    · simp only [if_pos e]
    · simp only [if_neg e]; rw [hz i (by omega)]
theorem hess_chi {h : Mx} {N : Nat} (hh : ∀ i j, j + 1 < i → i < N → h i j = 0) (z : F) : ∀ k, k ≤ N → D k (tr (xz h z)) = ev (k + 1) (hp h k k) z := by
  intro k
  induction k using Nat.strongRecOn with
  | _ k ih =>
    cases k with
    | zero => intro _; show (1 : F) = 0 + 1 * 1; grind
    | succ k =>
      intro hk
      have hX : ∀ i j, j + 1 < i → i < N → xz h z i j = 0 := fun i j h1 h2 => by simp only [xz]; rw [if_neg (by omega), hh i j h1 h2]; grind
      have h1 := hess_sum hX (fun b => xz h z b k) k (by omega)
      have e1 : setR (tr (xz h z)) k (fun b => xz h z b k) = tr (xz h z) := setR_self (tr (xz h z)) k
      rw [e1] at h1
      rw [h1, ih k (by omega) (by omega)]
      have e2 : ev (k + 1 + 1) (hp h (k + 1) (k + 1)) z = z * ev (k + 1) (hp h k k) z - h k k * ev (k + 1) (hp h k k) z - sm k fun i => prd h i (k - i) * h i k * ev (i + 1) (hp h i i) z := by
        have s1 : ev (k + 1 + 1) (fun l => if l = 0 then 0 else hp h k k (l - 1)) z = z * ev (k + 1) (hp h k k) z := ev_shift (k + 1) (hp h k k) z
        have s2 : ev (k + 1 + 1) (fun l => h k k * hp h k k l) z = h k k * ev (k + 1) (hp h k k) z := by
          rw [← ev_ext (m := k + 1) (n := k + 1 + 1) (c := hp h k k) z (by omega) (fun i hi => hp_deg h k i (by omega))]
          unfold ev; rw [← sm_mul]; exact sm_congr fun l _ => by grind
        have s3 : ev (k + 1 + 1) (fun l => sm k fun i => prd h i (k - i) * h i k * hp h k i l) z = sm k fun i => prd h i (k - i) * h i k * ev (i + 1) (hp h i i) z := by
          have : ev (k + 1 + 1) (fun l => sm k fun i => prd h i (k - i) * h i k * hp h k i l) z = sm (k + 1 + 1) fun l => sm k fun i => prd h i (k - i) * h i k * (hp h k i l * fp z l) := sm_congr fun l _ => by
            show (sm k fun i => prd h i (k - i) * h i k * hp h k i l) * fp z l = _
            rw [← sm_mul']; exact sm_congr fun i _ => by grind
          rw [this, sm_comm]
          refine sm_congr fun i hi => ?_
          rw [sm_mul, hp_same h (by omega)]
          congr 1
          exact ev_ext z (by omega) (fun l hl => hp_deg h i l (by omega))
        rw [← s1, ← s2, ← s3]
        unfold ev
        rw [← sm_sub, ← sm_sub]
        exact sm_congr fun l _ => by rw [hp_new]; grind
      rw [e2]
      have e3 : (sm k fun i => prd (fun a b => - xz h z a b) i (k - i) * xz h z i k * D i (tr (xz h z))) = (-1 : F) * sm k fun i => prd h i (k - i) * h i k * ev (i + 1) (hp h i i) z := by
        rw [← sm_mul]
        refine sm_congr fun i hi => ?_
        have hpd : ∀ m, prd (fun a b => - xz h z a b) i m = prd h i m := by
          intro m
          induction m with
          | zero => rfl
          | succ m ihm =>
            show prd _ i m * (- xz h z (i + m + 1) (i + m)) = prd h i m * h (i + m + 1) (i + m)
            rw [ihm]; simp only [xz]; rw [if_neg (by omega)]; grind
        rw [hpd, ih i (by omega) (by omega)]
        simp only [xz]
        rw [if_neg (by omega)]; grind
      rw [e3]
      simp only [xz, if_true]
      grind
end Fus
