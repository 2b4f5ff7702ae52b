/- Plain laws of orders, logarithms and square roots. -/
import Derived.Test.YtdfienoilcgneaaFlg
import Derived.Test.YtdfienoilcgneaaNums
namespace Fus
theorem pw_dvd {a x y : Nat} (h : pw a x = 1) (hd : x ∣ y) : pw a y = 1 := by
  obtain ⟨c, rfl⟩ := hd
  rw [← pw_pw, h, pw_one_left]
/-- what striking a prime leaves -/
theorem strip_spec (a p : Nat) (hp : 2 ≤ p) : ∀ f o, 1 ≤ o → o < 2 ^ f → pw a o = 1 → strip a p f o ∣ o ∧ pw a (strip a p f o) = 1 ∧ ¬ (strip a p f o % p = 0 ∧ pw a (strip a p f o / p) = 1)
  | 0, o, h1, h2, _ => by simp at h2; omega
  | f + 1, o, h1, h2, h3 => by
    by_cases h : o % p = 0 ∧ pw a (o / p) = 1
    · rw [strip_go a p f o h.1 h.2]
      have hpo : p ∣ o := Nat.dvd_of_mod_eq_zero h.1
      have hle : p ≤ o := Nat.le_of_dvd (by omega) hpo
      have h4 : 1 ≤ o / p := (Nat.le_div_iff_mul_le (by omega)).2 (by omega)
      have h5 : o / p < 2 ^ f := by
        refine Nat.div_lt_of_lt_mul ?_
        have : 2 * 2 ^ f ≤ p * 2 ^ f := Nat.mul_le_mul_right _ hp
        rw [Nat.pow_succ] at h2
        omega
      obtain ⟨q1, q2, q3⟩ := strip_spec a p hp f (o / p) h4 h5 h.2
      exact ⟨Nat.dvd_trans q1 (Nat.div_dvd_of_dvd hpo), q2, q3⟩
    · rw [strip_stop a p (f + 1) o h]
      exact ⟨Nat.dvd_refl _, h3, h⟩
theorem strip_keeps {a p s t : Nat} (hp : 2 ≤ p) (ht : 1 ≤ t) (hd : t ∣ s) (h : ¬ (s % p = 0 ∧ pw a (s / p) = 1)) : ¬ (t % p = 0 ∧ pw a (t / p) = 1) := fun ⟨h1, h2⟩ => by
  obtain ⟨c, rfl⟩ := hd
  obtain ⟨e, rfl⟩ := Nat.dvd_of_mod_eq_zero h1
  refine h ⟨by rw [Nat.mul_assoc, Nat.mul_mod_right], ?_⟩
  rw [Nat.mul_div_cancel_left _ (by omega)] at h2
  rw [Nat.mul_assoc, Nat.mul_div_cancel_left _ (by omega)]
  exact pw_dvd h2 ⟨c, rfl⟩
theorem ord_spec (a : Nat) (h1 : 1 ≤ a) (h2 : a < 55441) : pw a (ordN a) = 1 ∧ ordN a ∣ 55440 ∧ ∀ p, p = 2 ∨ p = 3 ∨ p = 5 ∨ p = 7 ∨ p = 11 → ¬ (ordN a % p = 0 ∧ pw a (ordN a / p) = 1) := by
  have hb := ordN_bd a
  have k2 := strip_spec a 2 (by omega) 16 55440 (by omega) (by omega) (fermat a h1 h2)
  have p2 := strip_pos a 2 16 55440 (by omega) (by omega)
  have l2 := strip_le a 2 16 55440
  generalize hs2 : strip a 2 16 55440 = s2 at *
  have k3 := strip_spec a 3 (by omega) 16 s2 p2 (by omega) k2.2.1
  have p3 := strip_pos a 3 16 s2 (by omega) p2
  have l3 := strip_le a 3 16 s2
  generalize hs3 : strip a 3 16 s2 = s3 at *
  have k5 := strip_spec a 5 (by omega) 16 s3 p3 (by omega) k3.2.1
  have p5 := strip_pos a 5 16 s3 (by omega) p3
  have l5 := strip_le a 5 16 s3
  generalize hs5 : strip a 5 16 s3 = s5 at *
  have k7 := strip_spec a 7 (by omega) 16 s5 p5 (by omega) k5.2.1
  have p7 := strip_pos a 7 16 s5 (by omega) p5
  have l7 := strip_le a 7 16 s5
  generalize hs7 : strip a 7 16 s5 = s7 at *
  have k11 := strip_spec a 11 (by omega) 16 s7 p7 (by omega) k7.2.1
  have p11 := strip_pos a 11 16 s7 (by omega) p7
  have e : ordN a = strip a 11 16 s7 := by unfold ordN; rw [hs2, hs3, hs5, hs7]
  rw [e]
  generalize strip a 11 16 s7 = s11 at *
  have d7 : s11 ∣ s7 := k11.1
  have d5 : s11 ∣ s5 := Nat.dvd_trans d7 k7.1
  have d3 : s11 ∣ s3 := Nat.dvd_trans d5 k5.1
  have d2 : s11 ∣ s2 := Nat.dvd_trans d3 k3.1
  refine ⟨k11.2.1, Nat.dvd_trans d2 k2.1, fun p hp => ?_⟩
  rcases hp with rfl | rfl | rfl | rfl | rfl
  · exact strip_keeps (by omega) p11 d2 k2.2.2
  · exact strip_keeps (by omega) p11 d3 k3.2.2
  · exact strip_keeps (by omega) p11 d5 k5.2.2
  · exact strip_keeps (by omega) p11 d7 k7.2.2
  · exact k11.2.2
theorem pw38_one {k : Nat} : pw 38 k = 1 ↔ k % 55440 = 0 := by
  constructor
  · intro h
    have := pw38_inj k 0 (by rw [h, pw_zero_right])
    omega
  · intro h
    have := pw38_mod k
    rw [h, pw_zero_right] at this
    exact this.symm
/-- the logarithm times the order -/
theorem log_ord (a : Nat) (h1 : 1 ≤ a) (h2 : a < 55441) : logN a * ordN a % 55440 = 0 ∧ ∀ p, p = 2 ∨ p = 3 ∨ p = 5 ∨ p = 7 ∨ p = 11 → ordN a % p = 0 → logN a * (ordN a / p) % 55440 ≠ 0 := by
  obtain ⟨k1, k2, _⟩ := logN_spec a h1 h2
  obtain ⟨o1, o2, o3⟩ := ord_spec a h1 h2
  refine ⟨pw38_one.1 (by rw [← pw_pw, k2]; exact o1), fun p hp h hc => o3 p hp ⟨h, ?_⟩⟩
  rw [← k2, pw_pw]
  rw [k2]
  exact pw38_one.2 hc
theorem coprime_dvd_one {m : Nat} (hm : m ∣ 55440) (h : ∀ p, p = 2 ∨ p = 3 ∨ p = 5 ∨ p = 7 ∨ p = 11 → ¬ p ∣ m) : m = 1 := by
  have c : ∀ p, (p = 2 ∨ p = 3 ∨ p = 5 ∨ p = 7 ∨ p = 11) → Nat.Coprime p m := fun p hp => by
    have hd : Nat.gcd p m ∣ p := Nat.gcd_dvd_left p m
    have hd2 : Nat.gcd p m ∣ m := Nat.gcd_dvd_right p m
    have hle : Nat.gcd p m ≤ p := Nat.le_of_dvd (by omega) hd
    have key : ∀ g, g ∣ p → g = 1 ∨ g = p := by
      intro g hg
      have hgl : g ≤ p := Nat.le_of_dvd (by omega) hg
      obtain ⟨q, hq⟩ := hg
      rcases hp with rfl | rfl | rfl | rfl | rfl
      · match g, hgl, hq with
        | 0, _, hq => omega
        | 1, _, _ => exact .inl rfl
        | 2, _, _ => exact .inr rfl
      · match g, hgl, hq with
        | 0, _, hq => omega
        | 1, _, _ => exact .inl rfl
        | 2, _, hq => omega
        | 3, _, _ => exact .inr rfl
      · match g, hgl, hq with
        | 0, _, hq => omega
        | 1, _, _ => exact .inl rfl
        | 2, _, hq => omega
        | 3, _, hq => omega
        | 4, _, hq => omega
        | 5, _, _ => exact .inr rfl
      · match g, hgl, hq with
        | 0, _, hq => omega
        | 1, _, _ => exact .inl rfl
        | 2, _, hq => omega
        | 3, _, hq => omega
        | 4, _, hq => omega
        | 5, _, hq => omega
        | 6, _, hq => omega
        | 7, _, _ => exact .inr rfl
      · match g, hgl, hq with
        | 0, _, hq => omega
        | 1, _, _ => exact .inl rfl
        | 2, _, hq => omega
        | 3, _, hq => omega
        | 4, _, hq => omega
        | 5, _, hq => omega
        | 6, _, hq => omega
        | 7, _, hq => omega
        | 8, _, hq => omega
        | 9, _, hq => omega
        | 10, _, hq => omega
        | 11, _, _ => exact .inr rfl
    rcases key _ hd with e | e
    · exact e
    · exact absurd (e ▸ hd2) (h p hp)
  have c2 := c 2 (by omega)
  have c3 := c 3 (by omega)
  have c5 := c 5 (by omega)
  have c7 := c 7 (by omega)
  have c11 := c 11 (by omega)
  have hall : Nat.Coprime 55440 m := by
    have e : 55440 = 2 * (2 * (2 * (2 * (3 * (3 * (5 * (7 * 11))))))) := by decide
    rw [e]
    exact Nat.Coprime.mul_left c2 (Nat.Coprime.mul_left c2 (Nat.Coprime.mul_left c2 (Nat.Coprime.mul_left c2 (Nat.Coprime.mul_left c3 (Nat.Coprime.mul_left c3 (Nat.Coprime.mul_left c5 (Nat.Coprime.mul_left c7 c11)))))))
  have h1 : Nat.gcd 55440 m = m := Nat.gcd_eq_right hm
  rw [← h1]; exact hall
/-- the order of a root of unity -/
theorem ord_root {n : Nat} (hn : 1 ≤ n) (hd : n ∣ 55440) : ordN (pw 38 (55440 / n)) = n := by
  obtain ⟨q, hq⟩ := hd
  have hq1 : 1 ≤ q := by
    rcases Nat.eq_zero_or_pos q with h | h
    · subst h; simp at hq
    · exact h
  have e : 55440 / n = q := by rw [hq]; exact Nat.mul_div_cancel_left q (by omega)
  rw [e]
  have hg := pw38_pos q
  have hg2 := pw_lt 38 q
  obtain ⟨o1, o2, o3⟩ := ord_spec (pw 38 q) hg hg2
  have hb := ordN_bd (pw 38 q)
  generalize ordN (pw 38 q) = d at *
  rw [pw_pw] at o1
  have h1 := pw38_one.1 o1
  have h2 : n * q ∣ q * d := by rw [← hq]; exact Nat.dvd_of_mod_eq_zero h1
  rw [Nat.mul_comm q d] at h2
  have h3 : n ∣ d := Nat.dvd_of_mul_dvd_mul_right (by omega) h2
  obtain ⟨m, rfl⟩ := h3
  have hm : m = 1 := coprime_dvd_one (Nat.dvd_trans ⟨n, Nat.mul_comm n m⟩ o2) (fun p hp hpm => by
    obtain ⟨c, rfl⟩ := hpm
    have hp0 : 0 < p := by omega
    have e2 : n * (p * c) = p * (n * c) := by rw [Nat.mul_left_comm]
    refine o3 p hp ⟨by rw [e2]; exact Nat.mul_mod_right _ _, ?_⟩
    rw [e2, Nat.mul_div_cancel_left _ hp0, pw_pw]
    refine pw38_one.2 ?_
    rw [← Nat.mul_assoc, Nat.mul_comm q n, ← hq]
    exact Nat.mul_mod_right _ _)
  rw [hm, Nat.mul_one]
/-- square roots by logarithms -/
theorem root_even {a s : Nat} (h1 : 1 ≤ a) (h2 : a < 55441) (hs : s < 55441) (h : s * s % 55441 = a) : logN a % 2 = 0 := by
  have hs1 : 1 ≤ s := by
    rcases Nat.eq_zero_or_pos s with e | e
    · subst e; simp at h; omega
    · exact e
  obtain ⟨t, ht, rfl⟩ := exists_log s hs1 hs
  obtain ⟨k1, k2, _⟩ := logN_spec a h1 h2
  rw [← pw_add] at h
  have h3 := pw38_inj (t + t) (logN a) (by rw [h, k2])
  omega
theorem even_root {a : Nat} (h1 : 1 ≤ a) (h2 : a < 55441) (h : logN a % 2 = 0) : pw 38 (logN a / 2) * pw 38 (logN a / 2) % 55441 = a := by
  obtain ⟨k1, k2, _⟩ := logN_spec a h1 h2
  rw [← pw_add, show logN a / 2 + logN a / 2 = logN a by omega]
  exact k2
end Fus
