/- Plain laws of the field's numbers: quotients, fractions, powers. No walk. -/
import Derived.Test.YtcgmbpkichfalaaDoorFlb
namespace Go.Proofs.YtcgmbpkichfalaaDoor
open Go.RowKit

theorem pw_mul55440 (b t : Nat) (h1 : 1 ≤ b) (h2 : b < 55441) : Fus.pw b (55440 * t) = 1 := by
  rw [← Fus.pw_pw, Fus.fermat b h1 h2, Fus.pw_one_left]
theorem pw_modk (b n : Nat) (h1 : 1 ≤ b) (h2 : b < 55441) : Fus.pw b n = Fus.pw b (n % 55440) := by
  have e : n = 55440 * (n / 55440) + n % 55440 := (Nat.div_add_mod n 55440).symm
  have hl := Fus.pw_lt b (n % 55440)
  conv => lhs; rw [e]
  rw [Fus.pw_add, pw_mul55440 b _ h1 h2, Nat.one_mul, Nat.mod_eq_of_lt hl]
theorem zpw_mod (b k : Int) (h1 : 1 ≤ b) (h2 : b < 55441) : zpw b k = (Fus.pw b.toNat (k % 55440).toNat : Nat) := by
  unfold zpw
  have g1 : 1 ≤ b.toNat := by omega
  have g2 : b.toNat < 55441 := by omega
  by_cases hk : k < 0
  · rw [if_pos hk, iinv_nat, ipw_eq]
    simp only [Int.toNat_natCast]
    unfold Fus.inv
    rw [Fus.pw_pw, pw_modk _ _ g1 g2]
    have e : (-k).toNat * 55439 % 55440 = (k % 55440).toNat := by omega
    rw [e]
  · rw [if_neg hk, ipw_eq, pw_modk _ _ g1 g2]
    have e : k.toNat % 55440 = (k % 55440).toNat := by omega
    rw [e]
theorem zpw_bd (b k : Int) : 0 ≤ zpw b k ∧ zpw b k < 55441 := by
  unfold zpw; split
  · exact iinv_bd _
  · exact ipw_bd _ _
theorem zpw_add (b m n : Int) (h1 : 1 ≤ b) (h2 : b < 55441) : zpw b m * zpw b n % 55441 = zpw b (m + n) := by
  rw [zpw_mod b m h1 h2, zpw_mod b n h1 h2, zpw_mod b (m + n) h1 h2]
  have e := Fus.pw_add b.toNat (m % 55440).toNat (n % 55440).toNat
  rw [pw_modk _ _ (by omega) (by omega)] at e
  have e2 : ((m % 55440).toNat + (n % 55440).toNat) % 55440 = ((m + n) % 55440).toNat := by omega
  rw [e2] at e
  rw [e, Int.natCast_emod, Int.natCast_mul]
  rfl
theorem iinv_mul (b : Int) (h1 : 1 ≤ b) (h2 : b < 55441) : b * iinv b % 55441 = 1 := by
  obtain ⟨t, rfl⟩ := Int.eq_ofNat_of_zero_le (show 0 ≤ b by omega)
  have h := Fus.mul_inv t (by omega) (by omega)
  rw [iinv_nat, Int.toNat_natCast]
  have h3 : ((t * Fus.inv t % 55441 : Nat) : Int) = 1 := by rw [h]; rfl
  rw [Int.natCast_emod, Int.natCast_mul] at h3
  exact h3
theorem quot_back (a b : Int) (ha : 0 ≤ a) (ha' : a < 55441) (h1 : 1 ≤ b) (h2 : b < 55441) : a * iinv b % 55441 * b % 55441 = a := by
  have e : a * iinv b * b = a * (b * iinv b) := by rw [Int.mul_assoc, Int.mul_comm (iinv b) b]
  have h3 : (a * iinv b % 55441) * b % 55441 = a * iinv b * b % 55441 := by rw [Int.mul_emod, Int.emod_emod, ← Int.mul_emod]
  rw [h3, e, Int.mul_emod, iinv_mul b h1 h2]
  omega
theorem less_back (a b : Int) (ha : 0 ≤ a) (ha' : a < 55441) : ((a + b) % 55441 - b) % 55441 = a := by omega
theorem left_eq (a b c : Int) : (a + b) % 55441 * c % 55441 = ((a * c) % 55441 + b * c) % 55441 := by
  have h3 : (a + b) % 55441 * c % 55441 = (a + b) * c % 55441 := by rw [Int.mul_emod, Int.emod_emod, ← Int.mul_emod]
  rw [h3, Int.add_mul]
  omega
theorem isNum_bd {a : Int} (h : isNum a = true) : 0 ≤ a ∧ a < 55441 := by
  simp only [isNum, inR, Bool.and_eq_true, decide_eq_true_iff] at h; omega
theorem divN_ok {a b q : Int} (h : divN a b = (q, 0)) : (0 ≤ a ∧ a < 55441) ∧ (1 ≤ b ∧ b < 55441) ∧ q = a * iinv b % 55441 := by
  unfold divN both at h
  split at h
  · rename_i hn
    have ha := isNum_bd hn.1
    have hb := isNum_bd hn.2
    split at h
    · simp at h
    · rename_i h0
      simp only [Prod.mk.injEq, and_true] at h
      exact ⟨ha, ⟨by omega, hb.2⟩, h.symm⟩
  · simp at h
theorem fracN_ok {x y f : Int} (h : fracN x y = (f, 0)) : (0 ≤ f ∧ f < 55441) ∧ f * (y % 55441) % 55441 = x % 55441 := by
  unfold fracN at h
  split at h
  · split at h
    · simp at h
    · rename_i h0
      simp only [Prod.mk.injEq, and_true] at h
      subst h
      exact ⟨by omega, quot_back _ _ (by omega) (by omega) (by omega) (by omega)⟩
  · simp at h
end Go.Proofs.YtcgmbpkichfalaaDoor
