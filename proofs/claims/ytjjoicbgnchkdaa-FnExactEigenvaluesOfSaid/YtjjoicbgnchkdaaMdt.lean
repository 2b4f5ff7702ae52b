/- Plain algebra over the field with 55441 elements: determinants of products, kernels, Cramer. No program in sight. -/
import Derived.Test.YtjjoicbgnchkdaaDet
namespace Fus
/-! determinants of products and of tables turned over; determinants and kernels -/
theorem alt_mul (n : Nat) (B : Mx) : Alt n fun A => D n (mm n A B) := by
  refine ⟨fun f g h => D_congr fun i j hi _ => mm_congr (fun k hk => h i k hi hk) (fun _ _ => rfl), fun f a ha u v x y => ?_, fun f a b ha hb hne h => ?_⟩
  · have e : ∀ w : Nat → F, mm n (setR f a w) B = setR (mm n f B) a (fun j => sm n fun k => w k * B k j) := fun w => by
      funext i j; simp only [mm, setR]; split <;> rfl
    simp only [e]
    rw [← (D_alt n).lin _ a ha]
    congr 2
    funext j
    rw [← sm_mul, ← sm_mul, ← sm_add]
    exact sm_congr fun k _ => by grind
  · exact (D_alt n).same _ a b ha hb hne fun j _ => sm_congr fun k hk => by rw [h k hk]
theorem D_mul (n : Nat) (A B : Mx) : D n (mm n A B) = D n A * D n B := by
  rw [(alt_mul n B).eq A]
  show _ * D n (mm n one B) = _
  rw [D_congr (f := mm n one B) (g := B) fun i j hi _ => one_mm B j hi]

theorem ker_zero_of_one {n : Nat} {f : Mx} {x : Nat → F} (h : ∀ i j, i < n → j < n → f i j = one i j) (hx : Ker n n f x) : ∀ j, j < n → x j = 0 := by
  intro j hj
  have := hx j hj
  rw [sm_one hj (fun i hi hne => by rw [h j i hj hi]; simp only [one]; rw [if_neg (fun e => hne e.symm)]; grind), h j j hj hj] at this
  simp only [one, if_true] at this
  grind
theorem red_det_ne (n : Nat) (f : Mx) : ∀ k, (redR n f k).d = k → (redR n f k).det ≠ 0 := by
  intro k
  induction k with
  | zero => intro _ e; exact zero_ne_one e.symm
  | succ k ih =>
    have hle := (redR_d n f k).2
    rw [redR_succ]
    rcases pivot_cases (redR n f k).f k (redR n f k).d n with ⟨m, h1, h2, _, h4⟩ | ⟨h1, h2⟩
    · rw [stepR_some h4]
      intro hd e
      have hd' : (redR n f k).d + 1 = k + 1 := hd
      have e' : (if m = 0 then (redR n f k).det else -(redR n f k).det) * (redR n f k).f ((redR n f k).d + m) k = 0 := e
      have hn := ih (by omega)
      rcases mul_zero_or e' with h | h
      · split at h
        · exact hn h
        · exact hn (by grind)
      · exact h2 h
    · rw [stepR_none h2]
      intro hd
      have hd' : (redR n f k).d = k + 1 := hd
      omega
theorem D_full {n : Nat} {f : Mx} : D n f ≠ 0 ↔ (redR n f n).d = n := by
  rw [D_red]
  constructor
  · intro h
    rcases Nat.lt_or_ge (redR n f n).d n with hd | hd
    · exact absurd (((D_alt n).steps f n).2.1 hd) h
    · have := (redR_d n f n).2; omega
  · exact red_det_ne n f n
theorem D_ker {n : Nat} {f : Mx} : D n f = 0 ↔ ∃ x, Ker n n f x ∧ ∃ j, j < n ∧ x j ≠ 0 := by
  obtain ⟨p, hp⟩ := red_redR n f n
  constructor
  · intro h
    have hd : (redR n f n).d < n := by
      rcases Nat.lt_or_ge (redR n f n).d n with hd | hd
      · exact hd
      · exact absurd h (D_full.2 (by have := (redR_d n f n).2; omega))
    obtain ⟨k, hk, hn⟩ := free_column hp hd
    exact ⟨_, (ker_redR n n f n _).1 (fvec_ker hp hk), k, hk, by rw [fvec_at hn]; exact fun e => zero_ne_one e.symm⟩
  · rintro ⟨x, hx, j, hj, hne⟩
    by_cases h : D n f = 0
    · exact h
    · rw [D_full.1 h] at hp
      exact absurd (ker_zero_of_one hp.eq_one ((ker_redR n n f n _).2 hx) j hj) hne

/-- a column is put in -/
def setC (f : Mx) (a : Nat) (v : Nat → F) : Mx := fun i j => if j = a then v i else f i j
theorem D_linC {n : Nat} : ∀ (f : Mx) {a : Nat} (_ : a < n) (u v : Nat → F) (x y : F), D n (setC f a fun j => x * u j + y * v j) = x * D n (setC f a u) + y * D n (setC f a v) := by
  induction n with
  | zero => intro f a h; omega
  | succ n ih =>
    intro f a ha u v x y
    rw [D_succ, D_succ, D_succ, ← sm_mul, ← sm_mul, ← sm_add]
    refine sm_congr fun i hi => ?_
    by_cases e : a = n
    · have em : ∀ w : Nat → F, D n (minor (setC f a w) i) = D n (minor f i) := fun w => D_congr fun p q _ hq => by simp only [minor, setC]; rw [if_neg (by omega)]
      rw [em, em, em]
      simp only [setC, e, if_true]; grind
    · have em : ∀ w : Nat → F, minor (setC f a w) i = setC (minor f i) a fun p => w (skip i p) := fun w => by funext p q; rfl
      rw [em, em, em, ih _ (by omega) (fun p => u (skip i p)) (fun p => v (skip i p))]
      simp only [setC]; rw [if_neg (fun e' => e e'.symm), if_neg (fun e' => e e'.symm), if_neg (fun e' => e e'.symm)]; grind
theorem alt_tr (n : Nat) : Alt n fun A => D n (tr A) := by
  refine ⟨fun f g h => D_congr fun i j hi hj => h j i hj hi, fun f a ha u v x y => ?_, fun f a b ha hb hne h => ?_⟩
  · exact D_linC (tr f) ha u v x y
  · refine D_ker.2 ⟨fun j => if j = a then 1 else if j = b then -1 else 0, fun i hi => ?_, a, ha, by simp only [if_true]; exact fun e => zero_ne_one e.symm⟩
    rw [sm_two ha hb hne (fun j _ h1 h2 => by simp only [if_neg h1, if_neg h2]; grind)]
    simp only [if_true, tr]
    rw [if_neg (fun e => hne e.symm), h i hi]; grind
theorem D_tr (n : Nat) (f : Mx) : D n (tr f) = D n f := by
  rw [(alt_tr n).eq f]
  show _ * D n (tr one) = _
  rw [D_congr (f := tr one) (g := one) fun i j _ _ => by simp only [tr, one]; by_cases e : i = j <;> simp [e]; intro e'; exact absurd e'.symm e, D_one]
  grind
/-- sums in a row -/
theorem D_sum {n : Nat} (f : Mx) {a : Nat} (ha : a < n) (m : Nat) (c : Nat → F) (v : Nat → Nat → F) : D n (setR f a fun j => sm m fun i => c i * v i j) = sm m fun i => c i * D n (setR f a (v i)) := by
  induction m with
  | zero => exact (D_alt n).zero ha fun j _ => setR_at _ _ _ _
  | succ m ih =>
    have e : (fun j => sm (m + 1) fun i => c i * v i j) = fun j => 1 * (sm m fun i => c i * v i j) + c m * v m j := by funext j; rw [sm_succ]; grind
    rw [e, D_lin f ha, ih, sm_succ]; grind
/-- the determinant with a unit vector as row: Cramer -/
def cof (n : Nat) (f : Mx) (j i : Nat) : F := D n (setR f j fun l => if l = i then 1 else 0)
theorem cramer {n : Nat} (f : Mx) {k j : Nat} (hk : k < n) (hj : j < n) : sm n (fun i => f k i * cof n f j i) = if k = j then D n f else 0 := by
  have e : D n (setR f j fun l => sm n fun i => f k i * (if l = i then 1 else 0)) = D n (setR f j (f k)) := D_congr fun p q hp hq => by
    simp only [setR]
    split
    · rw [sm_one hq (fun i _ hne => by rw [if_neg (fun e => hne e.symm)]; grind), if_pos rfl]; grind
    · rfl
  rw [D_sum f hj] at e
  simp only [cof]
  rw [e]
  by_cases h : k = j
  · rw [if_pos h, h, setR_self]
  · rw [if_neg h]
    exact (D_alt n).same _ j k hj hk (fun e => h e.symm) fun l _ => by rw [setR_at, setR_ne h]
end Fus
