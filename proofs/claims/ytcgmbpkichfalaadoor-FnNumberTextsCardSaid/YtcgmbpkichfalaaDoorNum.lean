/- Plain arithmetic of the prime field with 55441 elements: powers, the primitive number 38, logarithms, inverses. No program in sight. -/
import Derived.Lib.Hide
namespace Fus

/-- the power of a number, as a natural number below 55441 -/
def pw (a k : Nat) : Nat := a ^ k % 55441

theorem pw_lt (a k : Nat) : pw a k < 55441 := Nat.mod_lt _ (by omega)
theorem pw_mod (a k : Nat) : pw (a % 55441) k = pw a k := by unfold pw; rw [← Nat.pow_mod]
theorem pw_add (a m n : Nat) : pw a (m + n) = pw a m * pw a n % 55441 := by
  unfold pw; rw [Nat.pow_add, Nat.mul_mod]
theorem pw_pw (a m n : Nat) : pw (pw a m) n = pw a (m * n) := by
  unfold pw; rw [← Nat.pow_mod, Nat.pow_mul]
theorem pw_mul (a b n : Nat) : pw (a * b) n = pw a n * pw b n % 55441 := by
  unfold pw; rw [Nat.mul_pow, Nat.mul_mod]
theorem pw_one_left (n : Nat) : pw 1 n = 1 := by unfold pw; rw [Nat.one_pow]
theorem pw_zero_right (a : Nat) : pw a 0 = 1 := by unfold pw; rw [Nat.pow_zero]
theorem pw_one_right (a : Nat) (h : a < 55441) : pw a 1 = a := by unfold pw; rw [Nat.pow_one]; exact Nat.mod_eq_of_lt h
theorem pw_succ (a n : Nat) : pw a (n + 1) = pw a n * a % 55441 := by
  unfold pw; rw [Nat.pow_succ, Nat.mod_mul_mod]

/-- one round of the loop of a power -/
theorem pw_odd (p a k : Nat) (h : k % 2 = 1) : (p * a % 55441) * (a * a % 55441) ^ (k / 2) % 55441 = p * a ^ k % 55441 := by
  obtain ⟨m, rfl⟩ : ∃ m, k = 2 * m + 1 := ⟨k / 2, by omega⟩
  rw [show (2 * m + 1) / 2 = m from by omega]
  have e : p * a ^ (2 * m + 1) = (p * a) * (a * a) ^ m := by
    rw [Nat.pow_succ, Nat.pow_mul, Nat.pow_two, Nat.mul_assoc, Nat.mul_comm ((a * a) ^ m) a]
  rw [e, Nat.mul_mod (p * a % 55441), ← Nat.pow_mod, Nat.mod_mod, ← Nat.mul_mod]
theorem pw_even (p a k : Nat) (h : k % 2 = 0) : p * (a * a % 55441) ^ (k / 2) % 55441 = p * a ^ k % 55441 := by
  obtain ⟨m, rfl⟩ : ∃ m, k = 2 * m := ⟨k / 2, by omega⟩
  rw [show 2 * m / 2 = m from by omega, Nat.pow_mul, Nat.pow_two]
  rw [Nat.mul_mod, ← Nat.pow_mod, ← Nat.mul_mod]

/-! the primitive number -/
theorem p38 : pw 38 55440 = 1 := by decide +kernel
theorem p38_2 : pw 38 27720 ≠ 1 := by decide +kernel
theorem p38_3 : pw 38 18480 ≠ 1 := by decide +kernel
theorem p38_5 : pw 38 11088 ≠ 1 := by decide +kernel
theorem p38_7 : pw 38 7920 ≠ 1 := by decide +kernel
theorem p38_11 : pw 38 5040 ≠ 1 := by decide +kernel

theorem pw38_mul (d n : Nat) (h : pw 38 d = 1) : pw 38 (d * n) = 1 := by rw [← pw_pw, h, pw_one_left]
theorem pw38_add_full (k : Nat) : pw 38 (k + 55440) = pw 38 k := by
  rw [pw_add, p38, Nat.mul_one]; exact Nat.mod_eq_of_lt (pw_lt _ _)
theorem pw38_mod (k : Nat) : pw 38 (k % 55440) = pw 38 k := by
  conv => rhs; rw [← Nat.mod_add_div k 55440]
  rw [pw_add, Nat.mul_comm 55440, Nat.mul_comm, show pw 38 (k / 55440 * 55440) = 1 from by rw [Nat.mul_comm]; exact pw38_mul _ _ p38, Nat.one_mul]
  exact (Nat.mod_eq_of_lt (pw_lt _ _)).symm

/-- powers of 38 can be cancelled -/
theorem cancel38 (k x y : Nat) (h : pw 38 k * x % 55441 = pw 38 k * y % 55441) : x % 55441 = y % 55441 := by
  have h1 : pw 38 (55440 * k - k + k) = 1 := by
    rw [show 55440 * k - k + k = 55440 * k from by omega]; exact pw38_mul _ _ p38
  rw [pw_add] at h1
  have key : ∀ z, pw 38 (55440 * k - k) * (pw 38 k * z % 55441) % 55441 = z % 55441 := by
    intro z
    rw [Nat.mul_mod_mod, ← Nat.mul_assoc, Nat.mul_mod, h1, Nat.one_mul, Nat.mod_mod]
  rw [← key x, ← key y, h]

/-- the order of 38: the divisors of 55440 -/
theorem pow_gcd (m n : Nat) (hm : pw 38 m = 1) (hn : pw 38 n = 1) : pw 38 (Nat.gcd m n) = 1 := by
  induction m, n using Nat.gcd.induction with
  | H0 n => rw [Nat.gcd_zero_left]; exact hn
  | H1 m n hpos ih =>
    rw [Nat.gcd_rec]
    refine ih ?_ hm
    have e := Nat.mod_add_div n m
    rw [← e, pw_add, pw38_mul m _ hm, Nat.mul_one] at hn
    rw [← hn]; exact (Nat.mod_eq_of_lt (pw_lt _ _)).symm

theorem prime_factor (d : Nat) (h : d ∣ 55440) (hd : d ≠ 55440) :
    d ∣ 27720 ∨ d ∣ 18480 ∨ d ∣ 11088 ∨ d ∣ 7920 ∨ d ∣ 5040 := by
  obtain ⟨c, hc⟩ := h
  have hc0 : c ≠ 0 := by rintro rfl; simp at hc
  have hc1 : c ≠ 1 := by rintro rfl; simp at hc; exact hd hc.symm
  -- c divides 55440 and is above 1: one of 2, 3, 5, 7, 11 divides c
  have step : ∀ q, q ∣ c → d ∣ 55440 / q := by
    rintro q ⟨e, he⟩
    by_cases hq : q = 0
    · subst hq; simp at he; exact absurd he hc0
    · refine ⟨e, ?_⟩
      rw [hc, he, show d * (q * e) = q * (d * e) from by rw [← Nat.mul_assoc, Nat.mul_comm d q, Nat.mul_assoc]]
      exact Nat.mul_div_cancel_left _ (Nat.pos_of_ne_zero hq)
  by_cases h2 : 2 ∣ c
  · exact .inl (step 2 h2)
  by_cases h3 : 3 ∣ c
  · exact .inr (.inl (step 3 h3))
  by_cases h5 : 5 ∣ c
  · exact .inr (.inr (.inl (step 5 h5)))
  by_cases h7 : 7 ∣ c
  · exact .inr (.inr (.inr (.inl (step 7 h7))))
  by_cases h11 : 11 ∣ c
  · exact .inr (.inr (.inr (.inr (step 11 h11))))
  exfalso
  have cop : ∀ q, (∀ k, k ∣ q → k = 1 ∨ k = q) → ¬ q ∣ c → Nat.Coprime q c := by
    intro q hq hn
    rcases hq _ (Nat.gcd_dvd_left q c) with h | h
    · exact h
    · exact absurd (h ▸ Nat.gcd_dvd_right q c) hn
  have pr : ∀ q, q ∈ [2, 3, 5, 7, 11] → ∀ k, k ∣ q → k = 1 ∨ k = q := by
    intro q hq k hk
    have hle : k ≤ q := Nat.le_of_dvd (by rcases (by simpa using hq : q = 2 ∨ q = 3 ∨ q = 5 ∨ q = 7 ∨ q = 11) with h | h | h | h | h <;> omega) hk
    obtain ⟨m, hm⟩ := hk
    rcases (by simpa using hq : q = 2 ∨ q = 3 ∨ q = 5 ∨ q = 7 ∨ q = 11) with h | h | h | h | h <;> subst h <;>
      (have : k = 0 ∨ k = 1 ∨ k = 2 ∨ k = 3 ∨ k = 4 ∨ k = 5 ∨ k = 6 ∨ k = 7 ∨ k = 8 ∨ k = 9 ∨ k = 10 ∨ k = 11 := by omega
       rcases this with h | h | h | h | h | h | h | h | h | h | h | h <;> subst h <;> omega)
  have c2 := cop 2 (pr 2 (by simp)) h2
  have c3 := cop 3 (pr 3 (by simp)) h3
  have c5 := cop 5 (pr 5 (by simp)) h5
  have c7 := cop 7 (pr 7 (by simp)) h7
  have c11 := cop 11 (pr 11 (by simp)) h11
  have call : Nat.Coprime 55440 c := by
    rw [show 55440 = 2 * (2 * (2 * (2 * (3 * (3 * (5 * (7 * 11))))))) from rfl]
    exact .mul_left c2 (.mul_left c2 (.mul_left c2 (.mul_left c2 (.mul_left c3 (.mul_left c3 (.mul_left c5 (.mul_left c7 c11)))))))
  have : c ∣ 55440 := ⟨d, by rw [hc, Nat.mul_comm]⟩
  have : Nat.gcd 55440 c = c := Nat.gcd_eq_right this
  rw [call] at this
  exact hc1 this.symm

theorem order38 (n : Nat) (h : pw 38 n = 1) : 55440 ∣ n := by
  have hg := pow_gcd n 55440 h p38
  have hd : Nat.gcd n 55440 ∣ 55440 := Nat.gcd_dvd_right _ _
  by_cases he : Nat.gcd n 55440 = 55440
  · rw [← he]; exact Nat.gcd_dvd_left _ _
  · exfalso
    have up : ∀ m, Nat.gcd n 55440 ∣ m → pw 38 m = 1 := by
      rintro m ⟨c, rfl⟩; exact pw38_mul _ _ hg
    rcases prime_factor _ hd he with h | h | h | h | h
    · exact p38_2 (up _ h)
    · exact p38_3 (up _ h)
    · exact p38_5 (up _ h)
    · exact p38_7 (up _ h)
    · exact p38_11 (up _ h)

theorem pw38_inj (i j : Nat) (h : pw 38 i = pw 38 j) : i % 55440 = j % 55440 := by
  have main : ∀ i j, i ≤ j → pw 38 i = pw 38 j → i % 55440 = j % 55440 := by
    intro i j hij h
    have h1 : pw 38 i * 1 % 55441 = pw 38 i * pw 38 (j - i) % 55441 := by
      rw [← pw_add, show i + (j - i) = j from by omega, Nat.mul_one, ← h]
      exact Nat.mod_eq_of_lt (pw_lt _ _)
    have h2 := cancel38 i 1 _ h1
    rw [Nat.mod_eq_of_lt (pw_lt _ _)] at h2
    obtain ⟨c, hc⟩ := order38 (j - i) (by rw [← h2])
    omega
  rcases Nat.le_total i j with h1 | h1
  · exact main i j h1 h
  · exact (main j i h1 h.symm).symm

theorem pw38_pos (k : Nat) : 1 ≤ pw 38 k := by
  rcases Nat.eq_zero_or_pos (pw 38 k) with h | h
  · have h1 : pw 38 (k + (55440 * k - k)) = 1 := by
      rw [show k + (55440 * k - k) = 55440 * k from by omega]; exact pw38_mul _ _ p38
    rw [pw_add, h, Nat.zero_mul] at h1
    exact absurd h1 (by decide)
  · exact h

/-- as many different numbers below n as n: each one is met -/
theorem pigeon (n : Nat) : ∀ f : Nat → Nat, (∀ i, i < n → f i < n) → (∀ i j, i < n → j < n → f i = f j → i = j) → ∀ y, y < n → ∃ i, i < n ∧ f i = y := by
  induction n with
  | zero => intro f _ _ y hy; omega
  | succ n ih =>
    intro f hf hi y hy
    by_cases hn : f n = y
    · exact ⟨n, by omega, hn⟩
    · -- move the value n out of the way: g i = f i, but f n in place of n
      let g : Nat → Nat := fun i => if f i = n then f n else f i
      have hfn : f n ≤ n := by have := hf n (by omega); omega
      have hg : ∀ i, i < n → g i < n := by
        intro i hin
        by_cases h : f i = n
        · have hne : f n ≠ n := fun h' => by have := hi i n (by omega) (by omega) (by rw [h, h']); omega
          simp only [g, if_pos h]; omega
        · simp only [g, if_neg h]; have := hf i (by omega); omega
      have hgi : ∀ i j, i < n → j < n → g i = g j → i = j := by
        intro i j hin hjn e
        by_cases h1 : f i = n <;> by_cases h2 : f j = n
        · exact hi i j (by omega) (by omega) (by rw [h1, h2])
        · simp only [g, if_pos h1, if_neg h2] at e
          have := hi n j (by omega) (by omega) e; omega
        · simp only [g, if_neg h1, if_pos h2] at e
          have := hi i n (by omega) (by omega) e; omega
        · simp only [g, if_neg h1, if_neg h2] at e
          exact hi i j (by omega) (by omega) e
      by_cases hyn : y = n
      · -- the value n: if no i has it, then f maps n + 1 places into n
        subst hyn
        obtain ⟨i, hin, e⟩ := ih g hg hgi (f y) (by omega)
        by_cases h : f i = y
        · exact ⟨i, by omega, h⟩
        · simp only [g, if_neg h] at e
          have := hi i y (by omega) (by omega) e; omega
      · obtain ⟨i, hin, e⟩ := ih g hg hgi y (by omega)
        by_cases h : f i = n
        · simp only [g, if_pos h] at e; exact absurd e hn
        · simp only [g, if_neg h] at e; exact ⟨i, by omega, e⟩

/-- each number other than 0 is a power of 38 -/
theorem exists_log (a : Nat) (h1 : 1 ≤ a) (h2 : a < 55441) : ∃ k, k < 55440 ∧ pw 38 k = a := by
  obtain ⟨i, hi, e⟩ := pigeon 55440 (fun i => pw 38 i - 1) (fun i _ => by have := pw_lt 38 i; have := pw38_pos i; show pw 38 i - 1 < 55440; omega)
    (fun i j hi hj e => by
      have h1 := pw38_pos i; have h2 := pw38_pos j
      have : pw 38 i = pw 38 j := by have e' : pw 38 i - 1 = pw 38 j - 1 := e; omega
      have := pw38_inj i j this; omega) (a - 1) (by omega)
  have := pw38_pos i
  exact ⟨i, hi, by have e' : pw 38 i - 1 = a - 1 := e; omega⟩

theorem fermat (a : Nat) (h1 : 1 ≤ a) (h2 : a < 55441) : pw a 55440 = 1 := by
  obtain ⟨k, _, rfl⟩ := exists_log a h1 h2
  rw [pw_pw, Nat.mul_comm]; exact pw38_mul _ _ p38

/-- the inverse of a number -/
def inv (a : Nat) : Nat := pw a 55439
theorem inv_lt (a : Nat) : inv a < 55441 := pw_lt _ _
theorem mul_inv (a : Nat) (h1 : 1 ≤ a) (h2 : a < 55441) : a * inv a % 55441 = 1 := by
  have h := fermat a h1 h2
  rw [show 55440 = 55439 + 1 from rfl, pw_succ] at h
  rw [Nat.mul_comm]; exact h
theorem inv_zero : inv 0 = 0 := by decide +kernel
theorem inv_one : inv 1 = 1 := pw_one_left _

/-- a number other than 0 can be cancelled -/
theorem cancel (a x y : Nat) (h1 : 1 ≤ a) (h2 : a < 55441) (h : a * x % 55441 = a * y % 55441) : x % 55441 = y % 55441 := by
  have key : ∀ z, inv a * (a * z % 55441) % 55441 = z % 55441 := by
    intro z
    rw [Nat.mul_mod_mod, ← Nat.mul_assoc, Nat.mul_comm (inv a), Nat.mul_mod, mul_inv a h1 h2, Nat.one_mul, Nat.mod_mod]
  rw [← key x, ← key y, h]

theorem mul_eq_zero (a b : Nat) (ha : a < 55441) (hb : b < 55441) (h : a * b % 55441 = 0) : a = 0 ∨ b = 0 := by
  rcases Nat.eq_zero_or_pos a with h0 | h0
  · exact .inl h0
  · right
    have := cancel a b 0 h0 ha (by rw [h, Nat.mul_zero])
    rw [Nat.mod_eq_of_lt hb] at this; exact this

/-! the order of a number by striking primes, as the program reckons it -/
def strip (a p : Nat) : Nat → Nat → Nat
  | 0, o => o
  | f + 1, o => if o % p = 0 ∧ pw a (o / p) = 1 then strip a p f (o / p) else o
def ordN (a : Nat) : Nat := strip a 11 16 (strip a 7 16 (strip a 5 16 (strip a 3 16 (strip a 2 16 55440))))

theorem strip_stop (a p f o : Nat) (h : ¬ (o % p = 0 ∧ pw a (o / p) = 1)) : strip a p f o = o := by
  cases f with
  | zero => rfl
  | succ f => simp only [strip, if_neg h]
theorem strip_go (a p f o : Nat) (h : o % p = 0) (h' : pw a (o / p) = 1) : strip a p (f + 1) o = strip a p f (o / p) := by
  simp only [strip, if_pos (And.intro h h')]
theorem strip_le (a p f o : Nat) : strip a p f o ≤ o := by
  induction f generalizing o with
  | zero => exact Nat.le_refl _
  | succ f ih =>
    unfold strip
    split
    · exact Nat.le_trans (ih _) (Nat.div_le_self _ _)
    · exact Nat.le_refl _
theorem strip_pos (a p f o : Nat) (hp : 1 ≤ p) (ho : 1 ≤ o) : 1 ≤ strip a p f o := by
  induction f generalizing o with
  | zero => exact ho
  | succ f ih =>
    unfold strip
    split
    · rename_i h
      refine ih _ ?_
      exact (Nat.le_div_iff_mul_le hp).2 (by rw [Nat.one_mul]; exact Nat.le_of_dvd ho (Nat.dvd_of_mod_eq_zero h.1))
    · exact ho
theorem ordN_bd (a : Nat) : 1 ≤ ordN a ∧ ordN a ≤ 55440 := by
  unfold ordN
  constructor
  · refine strip_pos _ _ _ _ (by omega) (strip_pos _ _ _ _ (by omega) (strip_pos _ _ _ _ (by omega) (strip_pos _ _ _ _ (by omega) (strip_pos _ _ _ _ (by omega) (by omega)))))
  · exact Nat.le_trans (strip_le _ _ _ _) (Nat.le_trans (strip_le _ _ _ _) (Nat.le_trans (strip_le _ _ _ _) (Nat.le_trans (strip_le _ _ _ _) (strip_le _ _ _ _))))

theorem ord_small : ∀ r, r < 38 → 1 ≤ r → ordN r ≠ 55440 := by decide +kernel
theorem ord_38 : ordN 38 = 55440 := by decide +kernel

attribute [irreducible] pw inv
#print axioms exists_log
#print axioms ord_small
end Fus
