/- Plain algebra over the field with 55441 elements: determinants. No program in sight. -/
import Derived.Test.YtjjoicbgnchkdaaRed
namespace Fus
/-! determinants: by the last column, by rows, by reduction -/
def skip (i a : Nat) : Nat := if a < i then a else a + 1
def sgn (k : Nat) : F := if k % 2 = 0 then 1 else -1
def minor (f : Mx) (i : Nat) : Mx := fun a b => f (skip i a) b
def D : Nat → Mx → F
  | 0, _ => 1
  | n + 1, f => sm (n + 1) fun i => sgn (n + i) * f i n * D n (minor f i)
theorem D_succ (n : Nat) (f : Mx) : D (n + 1) f = sm (n + 1) fun i => sgn (n + i) * f i n * D n (minor f i) := rfl
theorem skip_lt {i a n : Nat} (h : a < n) : skip i a < n + 1 := by unfold skip; split <;> omega
theorem skip_ne (i a : Nat) : skip i a ≠ i := by unfold skip; split <;> omega
theorem D_congr {n : Nat} : ∀ {f g : Mx}, (∀ i j, i < n → j < n → f i j = g i j) → D n f = D n g := by
  induction n with
  | zero => intro f g _; rfl
  | succ n ih =>
    intro f g h
    rw [D_succ, D_succ]
    exact sm_congr fun i hi => by
      rw [h i n hi (by omega), ih (f := minor f i) (g := minor g i) fun a b ha hb => h _ _ (skip_lt ha) (by omega)]
theorem setR_self (f : Mx) (a : Nat) : setR f a (f a) = f := by funext i j; simp only [setR]; split <;> simp [*]
theorem setR_at (f : Mx) (a : Nat) (v : Nat → F) (j : Nat) : setR f a v a j = v j := by simp [setR]
theorem setR_ne {f : Mx} {a i : Nat} {v : Nat → F} (h : i ≠ a) (j : Nat) : setR f a v i j = f i j := by simp [setR, h]
theorem minor_set_same (f : Mx) (a : Nat) (v : Nat → F) : minor (setR f a v) a = minor f a := by
  funext x y; exact setR_ne (skip_ne a x) y
/-- where a row lies behind another one is struck -/
def back (i a : Nat) : Nat := if a < i then a else a - 1
theorem minor_set {f : Mx} {a i : Nat} {v : Nat → F} (h : i ≠ a) : minor (setR f a v) i = setR (minor f i) (back i a) v := by
  funext x y
  simp only [minor, setR]
  have : skip i x = a ↔ x = back i a := by unfold skip back; split <;> split <;> omega
  by_cases e : skip i x = a
  · rw [if_pos e, if_pos (this.1 e)]
  · rw [if_neg e, if_neg (fun e' => e (this.2 e'))]
theorem back_lt {i a n : Nat} (h : i ≠ a) (hi : i < n + 1) (ha : a < n + 1) : back i a < n := by unfold back; split <;> omega
/-- determinants are linear in each row -/
theorem D_lin {n : Nat} : ∀ (f : Mx) {a : Nat} (_ : a < n) (u v : Nat → F) (x y : F), D n (setR f a fun j => x * u j + y * v j) = x * D n (setR f a u) + y * D n (setR f a v) := by
  induction n with
  | zero => intro f a h; omega
  | succ n ih =>
    intro f a ha u v x y
    rw [D_succ, D_succ, D_succ, ← sm_mul, ← sm_mul, ← sm_add]
    refine sm_congr fun i hi => ?_
    by_cases e : i = a
    · subst e
      rw [minor_set_same, minor_set_same, minor_set_same, setR_at, setR_at, setR_at]; grind
    · rw [minor_set e, minor_set e, minor_set e, setR_ne e, setR_ne e, setR_ne e, ih _ (back_lt e hi ha)]; grind
theorem sm_two {n k l : Nat} {f : Nat → F} (hk : k < n) (hl : l < n) (hne : k ≠ l) (h : ∀ i, i < n → i ≠ k → i ≠ l → f i = 0) : sm n f = f k + f l := by
  have e : ∀ i, f i = (if i = k then f k else 0) + (if i = k then 0 else f i) := fun i => by split <;> simp_all <;> grind
  rw [sm_congr fun i _ => e i, sm_add, sm_one (k := k) hk (fun i _ hi => by rw [if_neg hi]), if_pos rfl, sm_one (k := l) hl (fun i hi hil => by
    split
    · rfl
    · rename_i hik; exact h i hi hik hil), if_neg (fun e => hne e.symm)]
theorem D_adj {n : Nat} : ∀ (f : Mx) {a : Nat} (_ : a + 1 < n) (_ : ∀ j, j < n → f a j = f (a + 1) j), D n f = 0 := by
  induction n with
  | zero => intro f a h; omega
  | succ n ih =>
    intro f a ha he
    rw [D_succ, sm_two (k := a) (l := a + 1) (by omega) ha (by omega)]
    · have e1 : D n (minor f a) = D n (minor f (a + 1)) := D_congr fun i j hi hj => by
        simp only [minor]
        by_cases h1 : i < a
        · rw [show skip a i = i from by simp [skip, h1], show skip (a + 1) i = i from by simp [skip]; omega]
        · by_cases h2 : i = a
          · subst h2; rw [show skip i i = i + 1 from by simp [skip], show skip (i + 1) i = i from by simp [skip]]; exact (he j (by omega)).symm
          · rw [show skip a i = i + 1 from by simp [skip]; omega, show skip (a + 1) i = i + 1 from by simp [skip]; omega]
      rw [he n (by omega), e1]
      have e2 : sgn (n + a) = - sgn (n + (a + 1)) := by
        unfold sgn
        by_cases h : (n + a) % 2 = 0
        · rw [if_pos h, if_neg (by omega)]; grind
        · rw [if_neg h, if_pos (by omega)]
      rw [e2]; grind
    · intro i hi h1 h2
      have : D n (minor f i) = 0 := by
        rcases Nat.lt_or_ge i a with h | h
        · refine ih _ (a := a - 1) (by omega) fun j hj => ?_
          simp only [minor]
          rw [show skip i (a - 1) = a from by unfold skip; rw [if_neg (by omega)]; omega, show skip i (a - 1 + 1) = a + 1 from by unfold skip; rw [if_neg (by omega)]; omega]
          exact he j (by omega)
        · refine ih _ (a := a) (by omega) fun j hj => ?_
          simp only [minor]
          rw [show skip i a = a from by unfold skip; rw [if_pos (by omega)], show skip i (a + 1) = a + 1 from by unfold skip; rw [if_pos (by omega)]]
          exact he j (by omega)
      rw [this]; grind

/-- what determinants are told by -/
structure Alt (n : Nat) (G : Mx → F) : Prop where
  congr : ∀ f g : Mx, (∀ i j, i < n → j < n → f i j = g i j) → G f = G g
  lin : ∀ (f : Mx) (a : Nat), a < n → ∀ (u v : Nat → F) (x y : F), G (setR f a fun j => x * u j + y * v j) = x * G (setR f a u) + y * G (setR f a v)
  same : ∀ (f : Mx) (a b : Nat), a < n → b < n → a ≠ b → (∀ j, j < n → f a j = f b j) → G f = 0

/-- two rows exchanged, for what vanishes at two equal rows -/
theorem swap_of {n : Nat} {G : Mx → F} (_ : ∀ f g : Mx, (∀ i j, i < n → j < n → f i j = g i j) → G f = G g)
    (hl : ∀ (f : Mx) (a : Nat), a < n → ∀ (u v : Nat → F) (x y : F), G (setR f a fun j => x * u j + y * v j) = x * G (setR f a u) + y * G (setR f a v))
    {a b : Nat} (ha : a < n) (hb : b < n) (hab : a ≠ b) (hs : ∀ f : Mx, (∀ j, j < n → f a j = f b j) → G f = 0) (f : Mx) : G (swapR f a b) = - G f := by
  have h0 : ∀ u v, G (setR (setR f a u) b v) = - G (setR (setR f a v) b u) := by
    intro u v
    have z : ∀ w, G (setR (setR f a w) b w) = 0 := fun w => hs _ fun j _ => by rw [setR_ne hab, setR_at, setR_at]
    have h1 := z fun j => 1 * u j + 1 * v j
    rw [hl _ b hb] at h1
    have comm : ∀ s t : Nat → F, setR (setR f a s) b t = setR (setR f b t) a s := fun s t => by
      funext i j; simp only [setR]; by_cases e1 : i = a <;> by_cases e2 : i = b <;> simp [e1, e2]
      · omega
      · intro e; exact absurd e hab
      · intro e; exact absurd e.symm hab
    rw [comm, comm, hl _ a ha, hl _ a ha, ← comm, ← comm, ← comm, ← comm, z u, z v] at h1
    grind
  have e1 : swapR f a b = setR (setR f a (f b)) b (f a) := by
    funext i j; simp only [swapR, setR]
    by_cases e1 : i = a
    · rw [if_pos e1, if_pos e1]; rw [if_neg (by omega)]
    · rw [if_neg e1, if_neg e1]
  have e2 : setR (setR f a (f a)) b (f b) = f := by rw [setR_self, setR_self]
  rw [e1, h0, e2]

theorem D_alt (n : Nat) : Alt n (D n) := by
  refine ⟨fun f g h => D_congr h, fun f a ha u v x y => D_lin f ha u v x y, ?_⟩
  have main : ∀ k, ∀ (f : Mx) (a : Nat), a + k + 1 < n → (∀ j, j < n → f a j = f (a + k + 1) j) → D n f = 0 := by
    intro k
    induction k with
    | zero => intro f a ha h; exact D_adj f ha h
    | succ k ih =>
      intro f a ha h
      have hs := swap_of (n := n) (G := D n) (fun f g h => D_congr h) (fun f a ha u v x y => D_lin f ha u v x y) (a := a + k + 1) (b := a + (k + 1) + 1) (by omega) ha (by omega)
        (fun f h => D_adj f (by omega) h) f
      have hz := ih (swapR f (a + k + 1) (a + (k + 1) + 1)) a (by omega) fun j hj => by
        simp only [swapR]; rw [if_neg (by omega), if_neg (by omega), if_true]; exact h j hj
      rw [hz] at hs; grind
  intro f a b ha hb hne h
  rcases Nat.lt_or_ge a b with hlt | hge
  · have e : a + (b - a - 1) + 1 = b := by omega
    exact main (b - a - 1) f a (by omega) (by rw [e]; exact h)
  · have e : b + (a - b - 1) + 1 = a := by omega
    exact main (a - b - 1) f b (by omega) (by rw [e]; exact fun j hj => (h j hj).symm)

section
variable {n : Nat} {G : Mx → F}
theorem Alt.swap (h : Alt n G) {a b : Nat} (ha : a < n) (hb : b < n) (hab : a ≠ b) (f : Mx) : G (swapR f a b) = - G f :=
  swap_of h.congr h.lin ha hb hab (fun f => h.same f a b ha hb hab) f
theorem Alt.add (h : Alt n G) {a b : Nat} (ha : a < n) (hb : b < n) (hab : a ≠ b) (f : Mx) (c : F) : G (setR f a fun j => f a j + c * f b j) = G f := by
  have e : (fun j => f a j + c * f b j) = fun j => 1 * f a j + c * f b j := by funext j; grind
  rw [e, h.lin f a ha, setR_self, h.same (setR f a (f b)) a b ha hb hab fun j _ => by rw [setR_at, setR_ne (fun e => hab e.symm)]]
  grind
theorem Alt.scale (h : Alt n G) {a : Nat} (ha : a < n) (f : Mx) (c : F) : G (scaleR f a c) = c * G f := by
  have e : scaleR f a c = setR f a fun j => c * f a j + 0 * f a j := by
    funext i j; simp only [scaleR, setR]; split
    · rename_i e; rw [e]; grind
    · rfl
  rw [e, h.lin f a ha, setR_self]; grind
theorem Alt.zero (h : Alt n G) {a : Nat} (ha : a < n) {f : Mx} (hz : ∀ j, j < n → f a j = 0) : G f = 0 := by
  have e : G f = G (setR f a fun j => 0 * f a j + 0 * f a j) := h.congr _ _ fun i j _ hj => by
    simp only [setR]; split
    · rename_i e; rw [e, hz j hj]; grind
    · rfl
  rw [e, h.lin f a ha]; grind
theorem Alt.clear (h : Alt n G) {d : Nat} (hd : d < n) (k : Nat) (f : Mx) : G (clearR f d k) = G f := by
  have main : ∀ m, m ≤ n → G (fun i j => if i < m then clearR f d k i j else f i j) = G f := by
    intro m
    induction m with
    | zero => intro _; exact h.congr _ _ fun i j _ _ => by simp
    | succ m ih =>
      intro hm
      rw [← ih (by omega)]
      by_cases e : m = d
      · refine h.congr _ _ fun i j _ _ => ?_
        by_cases e1 : i < m
        · simp only [if_pos e1, if_pos (show i < m + 1 from by omega)]
        · by_cases e2 : i = m
          · simp only [if_neg e1, if_pos (show i < m + 1 from by omega)]; simp [clearR, e2, e]
          · simp only [if_neg e1, if_neg (show ¬ i < m + 1 from by omega)]
      · have := h.add (a := m) (b := d) (by omega) hd e (fun i j => if i < m then clearR f d k i j else f i j) (-(f m k))
        rw [← this]
        refine h.congr _ _ fun i j _ _ => ?_
        simp only [setR]
        have hdj : (if d < m then clearR f d k d j else f d j) = f d j := by split <;> simp [clearR]
        by_cases e2 : i = m
        · subst e2
          rw [if_pos (by omega), if_pos rfl, if_neg (by omega), hdj]
          simp only [clearR, if_neg e]; grind
        · rw [if_neg e2]
          by_cases e1 : i < m
          · rw [if_pos (by omega), if_pos e1]
          · rw [if_neg (by omega), if_neg e1]
  rw [← main n (Nat.le_refl _)]
  exact h.congr _ _ fun i j hi _ => by rw [if_pos hi]
/-- a step of the reduction, for whatever is told like a determinant -/
theorem Alt.steps (h : Alt n G) (f : Mx) : ∀ k, ((redR n f k).d = k → G f = (redR n f k).det * G (redR n f k).f) ∧ ((redR n f k).d < k → (redR n f k).det = 0) ∧ ∃ c, G f = c * G (redR n f k).f := by
  intro k
  induction k with
  | zero => exact ⟨fun _ => by show G f = 1 * G f; grind, fun h => by simp [redR] at h, 1, by show G f = 1 * G f; grind⟩
  | succ k ih =>
    obtain ⟨i1, i2, c, i3⟩ := ih
    have hle := (redR_d n f k).2
    rw [redR_succ]
    rcases pivot_cases (redR n f k).f k (redR n f k).d n with ⟨m, h1, h2, _, h4⟩ | ⟨h1, h2⟩
    · rw [stepR_some h4]
      generalize (redR n f k).f = g at *
      generalize (redR n f k).d = d at *
      generalize (redR n f k).det = t at *
      have hinv := mul_finv h2
      generalize finv (g (d + m) k) = v at *
      have key : G g = (if m = 0 then 1 else -1) * g (d + m) k * G (clearR (scaleR (swapR g d (d + m)) d v) d k) := by
        rw [h.clear (by omega), h.scale (by omega)]
        by_cases e : m = 0
        · subst e
          have e2 : swapR g d (d + 0) = g := by funext i j; simp only [swapR]; split <;> simp_all
          rw [e2, if_pos rfl]; grind
        · rw [h.swap (by omega) h1 (by omega), if_neg e]; grind
      refine ⟨fun hd => ?_, fun hd => ?_, c * ((if m = 0 then 1 else -1) * g (d + m) k), by rw [i3, key]; grind⟩
      · have hd' : d + 1 = k + 1 := hd
        show G f = ((if m = 0 then t else -t) * g (d + m) k) * _
        rw [i1 (by omega), key]; split <;> grind
      · have hd' : d + 1 < k + 1 := hd
        show (if m = 0 then t else -t) * g (d + m) k = 0
        rw [i2 (by omega)]; split <;> grind
    · rw [stepR_none h2]
      exact ⟨fun hd => by have hd' : (redR n f k).d = k + 1 := hd; omega, fun _ => rfl, c, i3⟩
end
theorem Red.eq_one {n : Nat} {f : Mx} {p : Nat → Nat} (h : Red n n f n p) : ∀ i j, i < n → j < n → f i j = one i j := by
  have ge : ∀ i, i < n → i ≤ p i := by
    intro i
    induction i with
    | zero => intro _; omega
    | succ i ih => intro hi; have := ih (by omega); have := h.inc i (i + 1) (by omega) hi; omega
  have le : ∀ m i, i + m + 1 = n → p i ≤ i := by
    intro m
    induction m with
    | zero => intro i hi; have := h.lt i (by omega); omega
    | succ m ih => intro i hi; have := ih (i + 1) (by omega); have := h.inc i (i + 1) (by omega) (by omega); omega
  intro i j hi hj
  have e : p j = j := by have := ge j hj; have := le (n - j - 1) j (by omega); omega
  have := h.col j i hj hi
  rw [e] at this
  exact this
/-- the determinant by reduction, for whatever is told like one -/
theorem Alt.det {n : Nat} {G : Mx → F} (h : Alt n G) (f : Mx) : G f = (redR n f n).det * G one := by
  obtain ⟨h1, h2, c, h3⟩ := h.steps f n
  obtain ⟨p, hp⟩ := red_redR n f n
  rcases Nat.lt_or_ge (redR n f n).d n with hd | hd
  · rw [h2 hd, h3, h.zero (a := (redR n f n).d) hd fun j hj => hp.rest _ j (Nat.le_refl _) hd hj]; grind
  · have hd' : (redR n f n).d = n := by have := (redR_d n f n).2; omega
    rw [hd'] at hp
    rw [h1 hd', h.congr _ _ hp.eq_one]
theorem D_one (n : Nat) : D n one = 1 := by
  induction n with
  | zero => rfl
  | succ n ih =>
    rw [D_succ, sm_one (k := n) (by omega) (fun i hi hne => by simp only [one]; rw [if_neg hne]; grind)]
    have : D n (minor one n) = D n one := D_congr fun i j hi _ => by simp only [minor]; rw [show skip n i = i from by simp [skip, hi]]
    rw [this, ih]
    simp only [one, if_true, sgn]; rw [if_pos (by omega)]; grind
theorem D_red (n : Nat) (f : Mx) : D n f = (redR n f n).det := by rw [(D_alt n).det f, D_one]; grind
theorem Alt.eq {n : Nat} {G : Mx → F} (h : Alt n G) (f : Mx) : G f = D n f * G one := by rw [D_red]; exact h.det f
end Fus
