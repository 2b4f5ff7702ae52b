/- Walks of the prime field's functions, third part: orders, the primitive number, roots of unity, square roots, short fractions, logarithms. -/
import Derived.Test.YtcgmbpkichfalaaDoorFlb
import Derived.Test.YtcgmbpkichfalaaDoorNmb
namespace Go.Proofs.YtcgmbpkichfalaaDoor
open Go.RowKit

/-! orders -/
def ordP : List Int := [2, 3, 5, 7, 11]
def ordK (a : Nat) : Nat → Nat
  | 0 => 55440
  | k + 1 => Fus.strip a ((ordP.getD k 1).toNat) 16 (ordK a k)
theorem ordK_5 (a : Nat) : ordK a 5 = Fus.ordN a := rfl
theorem ordK_bd (a k : Nat) : 1 ≤ ordK a k ∧ ordK a k ≤ 55440 := by
  induction k with
  | zero => exact ⟨by show 1 ≤ 55440; omega, by show 55440 ≤ 55440; omega⟩
  | succ k ih =>
    unfold ordK
    constructor
    · refine Fus.strip_pos _ _ _ _ ?_ ih.1
      match k with
      | 0 => decide
      | 1 => decide
      | 2 => decide
      | 3 => decide
      | 4 => decide
      | k + 5 => simp [ordP]
    · exact Nat.le_trans (Fus.strip_le _ _ _ _) ih.2
/-- what the inner loop keeps: what is left to strike comes to the same -/
def stripRel (a : Nat) (p : Int) (o : Int) (S : Nat) : Prop := 1 ≤ o ∧ o ≤ 55440 ∧ ∃ f, o.toNat < 2 ^ f ∧ Fus.strip a p.toNat f o.toNat = S
theorem stripRel_start (a k : Nat) (p : Int) (h : ordP[k]? = some p) : stripRel a p (ordK a k : Nat) (ordK a (k + 1)) := by
  have := ordK_bd a k
  refine ⟨by omega, by omega, 16, by simp only [Int.toNat_natCast]; omega, ?_⟩
  simp only [Int.toNat_natCast, ordK, List.getD_eq_getElem?_getD, h, Option.getD_some]
theorem stripRel_end {a : Nat} {p o : Int} {S : Nat} (h : stripRel a p o S) (hn : ¬ (o.toNat % p.toNat = 0 ∧ Fus.pw a (o.toNat / p.toNat) = 1)) : (S : Int) = o := by
  obtain ⟨h1, h2, f, _, hf⟩ := h
  rw [Fus.strip_stop _ _ _ _ hn] at hf
  omega
theorem stripRel_go {a : Nat} {p o : Int} {S : Nat} (hp : 2 ≤ p) (h : stripRel a p o S) (h1 : o % p = 0) (h2 : Fus.pw a (o.toNat / p.toNat) = 1) : stripRel a p (o / p) S := by
  obtain ⟨ho1, ho2, f, hlt, hf⟩ := h
  obtain ⟨m, rfl⟩ := Int.eq_ofNat_of_zero_le (show 0 ≤ o by omega)
  obtain ⟨q, rfl⟩ := Int.eq_ofNat_of_zero_le (show 0 ≤ p by omega)
  simp only [Int.toNat_natCast] at *
  have hm : m % q = 0 := by exact_mod_cast h1
  have hq : (m : Int) / (q : Int) = ((m / q : Nat) : Int) := by simp
  have hle : m / q * 2 ≤ m := Nat.le_trans (Nat.mul_le_mul_left _ (by omega : 2 ≤ q)) (Nat.div_mul_le_self m q)
  have hpos : 1 ≤ m / q := (Nat.le_div_iff_mul_le (by omega)).2 (by rw [Nat.one_mul]; exact Nat.le_of_dvd (by omega) (Nat.dvd_of_mod_eq_zero hm))
  rw [hq]
  refine ⟨by omega, by omega, f - 1, ?_, ?_⟩
  · simp only [Int.toNat_natCast]
    cases f with
    | zero => simp at hlt; omega
    | succ f => simp only [Nat.add_sub_cancel]; rw [Nat.pow_succ] at hlt; omega
  · simp only [Int.toNat_natCast]
    cases f with
    | zero => simp at hlt; omega
    | succ f => rw [Fus.strip_go _ _ _ _ hm h2] at hf; exact hf
theorem ordP_bd {k : Nat} {p : Int} (h : ordP[k]? = some p) : 2 ≤ p ∧ p ≤ 11 ∧ k < 5 := by
  match k, h with
  | 0, h => simp [ordP] at h; omega
  | 1, h => simp [ordP] at h; omega
  | 2, h => simp [ordP] at h; omega
  | 3, h => simp [ordP] at h; omega
  | 4, h => simp [ordP] at h; omega
  | k + 5, h => simp [ordP] at h
theorem ordP_cell (w : World) (t : TypeId) : ∀ k p, ordP[k]? = some p → (w.alloc (.cells #[.int .i64 2, .int .i64 3, .int .i64 5, .int .i64 7, .int .i64 11] t)).cell? ⟨w.heap.size, k, none⟩ = some (.int .i64 p) := by
  intro k p h
  match k, h with
  | 0, h => simp [ordP] at h; subst h; simp
  | 1, h => simp [ordP] at h; subst h; simp
  | 2, h => simp [ordP] at h; subst h; simp
  | 3, h => simp [ordP] at h; subst h; simp
  | 4, h => simp [ordP] at h; subst h; simp
  | k + 5, h => simp [ordP] at h
/-- the order of a number -/
def iord (a : Int) : Int := (Fus.ordN a.toNat : Nat)
theorem iord_bd (a : Int) : 1 ≤ iord a ∧ iord a ≤ 55440 := by
  have := Fus.ordN_bd a.toNat
  unfold iord; omega
theorem ipw_one {a k : Int} (h : ipw a k = 1) : Fus.pw a.toNat k.toNat = 1 := by rw [ipw_eq] at h; omega
theorem ipw_not_one {a k : Int} (h : ipw a k ≠ 1) : Fus.pw a.toNat k.toNat ≠ 1 := by rw [ipw_eq] at h; omega
theorem toNat_div (o p : Int) (ho : 0 ≤ o) (hp : 0 ≤ p) : (o / p).toNat = o.toNat / p.toNat := by
  obtain ⟨m, rfl⟩ := Int.eq_ofNat_of_zero_le ho
  obtain ⟨q, rfl⟩ := Int.eq_ofNat_of_zero_le hp
  simp only [Int.toNat_natCast]
  exact_mod_cast rfl
theorem toNat_mod (o p : Int) (ho : 0 ≤ o) (hp : 0 ≤ p) : (o % p).toNat = o.toNat % p.toNat := by
  obtain ⟨m, rfl⟩ := Int.eq_ofNat_of_zero_le ho
  obtain ⟨q, rfl⟩ := Int.eq_ofNat_of_zero_le hp
  simp only [Int.toNat_natCast]
  exact_mod_cast rfl

set_option maxHeartbeats 1000000 in
theorem c_l01Order (a : Int) (w : World) (ha1 : 0 ≤ a) (ha2 : a < 55441) :
    Calls Tryd.prog 54 #[.int .i64 a] w fun e w' => e = .returned (.int .i64 (iord a)) ∧ Below w.heap.size w w' := by
  have HC := Lib.hid (ordP_cell w 2)
  have HB := below_alloc w (.cells #[.int .i64 2, .int .i64 3, .int .i64 5, .int .i64 7, .int .i64 11] 2)
  go_enter Tryd.func54, Tryd.ntmps54
  go_wp2_with fail
  go_loop [3, 5] (fun o i => ∃ k : Nat, k ≤ 5 ∧ i = .int .i64 k ∧ o = .int .i64 (ordK a.toNat k : Nat)) (fun _ i => 5 - (intOf i).toNat)
  case atStart => exact ⟨0, by omega, rfl, rfl⟩
  case round =>
    obtain ⟨k, hk, rfl, rfl⟩ := hrel
    by_cases hlt : k < 5
    · obtain ⟨p, hp⟩ : ∃ p, ordP[k]? = some p := ⟨ordP[k], by simp [ordP]⟩
      have hcell := HC.out k p hp
      have hb := ordP_bd hp
      obtain ⟨hp2, hp11, _⟩ := hb
      have HP := Lib.hid hp
      have HS := Lib.hid (stripRel_start a.toNat k p hp)
      clear hp
      have hob := ordK_bd a.toNat k
      obtain ⟨hob1, hob2⟩ := hob
      go_wp2_with fail
      go_loop [3] (fun o => ∃ o' : Int, o = .int .i64 o' ∧ stripRel a.toNat p o' (ordK a.toNat (k + 1))) (fun o => (intOf o).toNat)
      case atStart => exact ⟨_, rfl, HS.out⟩
      case round =>
        obtain ⟨o, rfl, hr⟩ := hrel
        have ho1 := hr.1
        have ho2 := hr.2.1
        have HR := Lib.hid hr
        clear hr
        have hd1 : 0 ≤ o / p := Int.ediv_nonneg (by omega) (by omega)
        have hd2 : o / p ≤ o := Int.ediv_le_self _ (by omega)
        by_cases hm : o % p = 0
        · have hmB : (o % p == 0) = true := by simp [hm]
          have HM := Lib.hid hm
          clear hm
          by_cases hw : ipw a (o / p) = 1
          · have hwB : (ipw a (o / p) == 1) = true := by simp [hw]
            have HW := Lib.hid hw
            clear hw
            go_wp2_with (go_at_call 32; refine (c_l01Pow a (o / p) _ ha1 ha2 hd1 (by omega)).mono ?_; rintro e w' ⟨rfl, rfl⟩)
            go_round
            case rel => exact ⟨_, rfl, stripRel_go hp2 HR.out HM.out (by rw [← toNat_div _ _ (by omega) (by omega)]; exact ipw_one HW.out)⟩
            case measure =>
              have : o / p < o := Int.ediv_lt_of_lt_mul (by omega) (by have := Int.mul_le_mul_of_nonneg_left hp2 (show 0 ≤ o by omega); omega)
              simp [intOf]; omega
          · have hwB : (ipw a (o / p) == 1) = false := by simp [hw]
            have HE : Hid ((ordK a.toNat (k + 1) : Nat) = o) := Lib.hid (stripRel_end HR.out (fun h => ipw_not_one hw (by rw [toNat_div _ _ (by omega) (by omega)]; exact h.2)))
            clear hw
            go_wp2_with (go_at_call 32; refine (c_l01Pow a (o / p) _ ha1 ha2 hd1 (by omega)).mono ?_; rintro e w' ⟨rfl, rfl⟩)
            go_round
            case rel => exact ⟨k + 1, by omega, by go_num, by rw [HE.out]⟩
            case measure => simp [intOf]; omega
        · have hmB : (o % p == 0) = false := by simp [hm]
          have HE : Hid ((ordK a.toNat (k + 1) : Nat) = o) := Lib.hid (stripRel_end HR.out (fun h => hm (by have := toNat_mod o p (by omega) (by omega); have hnn : 0 ≤ o % p := Int.emod_nonneg _ (by omega); omega)))
          clear hm
          go_wp2_with fail
          go_round
          case rel => exact ⟨k + 1, by omega, by go_num, by rw [HE.out]⟩
          case measure => simp [intOf]; omega
    · have hk5 : k = 5 := by omega
      subst hk5
      go_wp2_with fail
      go_ret
      exact ⟨rfl, HB⟩
theorem iord_eq (a : Int) : iord a = (Fus.ordN a.toNat : Nat) := rfl
attribute [irreducible] iord
end Go.Proofs.YtcgmbpkichfalaaDoor
