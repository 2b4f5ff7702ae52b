/- Walks of the prime field's functions, third part: orders, the primitive number, roots of unity, square roots, short fractions, logarithms. -/
import Derived.Test.YtoaphakhfedgeaaFlb
import Derived.Test.YtoaphakhfedgeaaNmb
namespace Go.Proofs.Ytoaphakhfedgeaa
open Go.RowKit

/-! orders -/
def ordP : List Int := [2, 3, 5, 7, 11]
def ordK (a : Nat) : Nat → Nat
  | 0 => 55440
  | k + 1 => Fus.strip a ((ordP.getD k 1).toNat) 16 (ordK a k)
theorem ordK_5 (a : Nat) : ordK a 5 = Fus.ordN a := rfl
theorem ordK_bd (a k : Nat) : 1 ≤ ordK a k ∧ ordK a k ≤ 55440 := by
  induction k with
  | zero => exact ⟨by show 1 ≤ 55440; omega, by show 55440 ≤ 55440; omega⟩
  | succ k ih =>
    unfold ordK
    constructor
    · refine Fus.strip_pos _ _ _ _ ?_ ih.1
      match k with
      | 0 => decide
      | 1 => decide
      | 2 => decide
      | 3 => decide
      | 4 => decide
      | k + 5 => simp [ordP]
    · exact Nat.le_trans (Fus.strip_le _ _ _ _) ih.2
/-- what the inner loop keeps: what is left to strike comes to the same -/
def stripRel (a : Nat) (p : Int) (o : Int) (S : Nat) : Prop := 1 ≤ o ∧ o ≤ 55440 ∧ ∃ f, o.toNat < 2 ^ f ∧ Fus.strip a p.toNat f o.toNat = S
theorem stripRel_start (a k : Nat) (p : Int) (h : ordP[k]? = some p) : stripRel a p (ordK a k : Nat) (ordK a (k + 1)) := by
  have := ordK_bd a k
  refine ⟨by omega, by omega, 16, by simp only [Int.toNat_natCast]; omega, ?_⟩
  simp only [Int.toNat_natCast, ordK, List.getD_eq_getElem?_getD, h, Option.getD_some]
theorem stripRel_end {a : Nat} {p o : Int} {S : Nat} (h : stripRel a p o S) (hn : ¬ (o.toNat % p.toNat = 0 ∧ Fus.pw a (o.toNat / p.toNat) = 1)) : (S : Int) = o := by
  obtain ⟨h1, h2, f, _, hf⟩ := h
  rw [Fus.strip_stop _ _ _ _ hn] at hf
  omega
theorem stripRel_go {a : Nat} {p o : Int} {S : Nat} (hp : 2 ≤ p) (h : stripRel a p o S) (h1 : o % p = 0) (h2 : Fus.pw a (o.toNat / p.toNat) = 1) : stripRel a p (o / p) S := by
  obtain ⟨ho1, ho2, f, hlt, hf⟩ := h
  obtain ⟨m, rfl⟩ := Int.eq_ofNat_of_zero_le (show 0 ≤ o by omega)
  obtain ⟨q, rfl⟩ := Int.eq_ofNat_of_zero_le (show 0 ≤ p by omega)
  simp only [Int.toNat_natCast] at *
  have hm : m % q = 0 := by exact_mod_cast h1
  have hq : (m : Int) / (q : Int) = ((m / q : Nat) : Int) := by simp
  have hle : m / q * 2 ≤ m := Nat.le_trans (Nat.mul_le_mul_left _ (by omega : 2 ≤ q)) (Nat.div_mul_le_self m q)
  have hpos : 1 ≤ m / q := (Nat.le_div_iff_mul_le (by omega)).2 (by rw [Nat.one_mul]; exact Nat.le_of_dvd (by omega) (Nat.dvd_of_mod_eq_zero hm))
  rw [hq]
  refine ⟨by omega, by omega, f - 1, ?_, ?_⟩
  · simp only [Int.toNat_natCast]
    cases f with
    | zero => simp at hlt; omega
    | succ f => simp only [Nat.add_sub_cancel]; rw [Nat.pow_succ] at hlt; omega
  · simp only [Int.toNat_natCast]
    cases f with
    | zero => simp at hlt; omega
    | succ f => rw [Fus.strip_go _ _ _ _ hm h2] at hf; exact hf
theorem ordP_bd {k : Nat} {p : Int} (h : ordP[k]? = some p) : 2 ≤ p ∧ p ≤ 11 ∧ k < 5 := by
  match k, h with
  | 0, h => simp [ordP] at h; omega
  | 1, h => simp [ordP] at h; omega
  | 2, h => simp [ordP] at h; omega
  | 3, h => simp [ordP] at h; omega
  | 4, h => simp [ordP] at h; omega
  | k + 5, h => simp [ordP] at h
theorem ordP_cell (w : World) (t : TypeId) : ∀ k p, ordP[k]? = some p → (w.alloc (.cells #[.int .i64 2, .int .i64 3, .int .i64 5, .int .i64 7, .int .i64 11] t)).cell? ⟨w.heap.size, k, none⟩ = some (.int .i64 p) := by
  intro k p h
  match k, h with
  | 0, h => simp [ordP] at h; subst h; simp
  | 1, h => simp [ordP] at h; subst h; simp
  | 2, h => simp [ordP] at h; subst h; simp
  | 3, h => simp [ordP] at h; subst h; simp
  | 4, h => simp [ordP] at h; subst h; simp
  | k + 5, h => simp [ordP] at h
/-- the order of a number -/
def iord (a : Int) : Int := (Fus.ordN a.toNat : Nat)
theorem iord_bd (a : Int) : 1 ≤ iord a ∧ iord a ≤ 55440 := by
  have := Fus.ordN_bd a.toNat
  unfold iord; omega
theorem ipw_one {a k : Int} (h : ipw a k = 1) : Fus.pw a.toNat k.toNat = 1 := by rw [ipw_eq] at h; omega
theorem ipw_not_one {a k : Int} (h : ipw a k ≠ 1) : Fus.pw a.toNat k.toNat ≠ 1 := by rw [ipw_eq] at h; omega
theorem toNat_div (o p : Int) (ho : 0 ≤ o) (hp : 0 ≤ p) : (o / p).toNat = o.toNat / p.toNat := by
  obtain ⟨m, rfl⟩ := Int.eq_ofNat_of_zero_le ho
  obtain ⟨q, rfl⟩ := Int.eq_ofNat_of_zero_le hp
  simp only [Int.toNat_natCast]
  exact_mod_cast rfl
theorem toNat_mod (o p : Int) (ho : 0 ≤ o) (hp : 0 ≤ p) : (o % p).toNat = o.toNat % p.toNat := by
  obtain ⟨m, rfl⟩ := Int.eq_ofNat_of_zero_le ho
  obtain ⟨q, rfl⟩ := Int.eq_ofNat_of_zero_le hp
  simp only [Int.toNat_natCast]
  exact_mod_cast rfl

theorem iord_eq (a : Int) : iord a = (Fus.ordN a.toNat : Nat) := rfl
attribute [irreducible] iord
end Go.Proofs.Ytoaphakhfedgeaa
