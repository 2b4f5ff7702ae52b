/- Walks of the prime field's functions, program and reference: what each call returns. -/
import Derived.Test.YtcgmbpkichfalaaDoorRows
import Derived.Test.YtcgmbpkichfalaaDoorNum
import Derived.WalkKit
import Derived.WalkSpells
import Derived.WalkLawsBesides
import Derived.Lib.Hide
import Derived.Deep.QuietTactic
import Derived.BigQuiet
namespace Go.Proofs.YtcgmbpkichfalaaDoor
open Go.RowKit

theorem ret_int {k : IntKind} {a b : Int} (h : a = b) : Ending.returned (.int k a) = .returned (.int k b) := by rw [h]
theorem ret_two {a b : Int} {r : Int × Int} (h : r = (a, b)) : Ending.returned (.tuple #[.int .i64 a, .int .i64 b]) = .returned (.tuple #[.int .i64 r.1, .int .i64 r.2]) := by rw [h]

/-- is n from l to h -/
def inR (l h n : Int) : Bool := decide (l ≤ n) && decide (n ≤ h)
theorem inR_true {l h n : Int} (k : inR l h n = true) : l ≤ n ∧ n ≤ h := by simpa [inR] using k
theorem inR_false {l h n : Int} (k : inR l h n = false) : ¬ (l ≤ n ∧ n ≤ h) := by
  intro ⟨h1, h2⟩; simp [inR, h1, h2] at k
theorem inR_yes {l h n : Int} (k : l ≤ n) (k' : n ≤ h) : inR l h n = true := by simp [inR, k, k']
theorem inR_no {l h n : Int} (k : ¬ (l ≤ n ∧ n ≤ h)) : inR l h n = false := by
  cases e : inR l h n
  · rfl
  · exact absurd (inR_true e) k

theorem c_within (n l h : Int) (w : World) :
    Calls Tryd.prog 38 #[.int .i64 n, .int .i64 l, .int .i64 h] w fun e w' => e = .returned (.bool (inR l h n)) ∧ w = w' := by
  go_enter Tryd.func38, Tryd.ntmps38
  go_wp2
  all_goals go_ret
  all_goals exact ⟨by simp [inR] <;> omega, rfl⟩
theorem c_l01In (n l h : Int) (w : World) :
    Calls Tryd.prog 37 #[.int .i64 n, .int .i64 l, .int .i64 h] w fun e w' => e = .returned (.bool (inR l h n)) ∧ w = w' := by
  go_enter Tryd.func37, Tryd.ntmps37
  go_wp2
  all_goals go_ret
  all_goals exact ⟨by simp [inR] <;> omega, rfl⟩

/-- is it a number of the field -/
def isNum (n : Int) : Bool := inR 0 55440 n
theorem isNum_true {n : Int} (h : isNum n = true) : 0 ≤ n ∧ n < 55441 := by
  have := inR_true h; omega
theorem isNum_false {n : Int} (h : isNum n = false) : ¬ (0 ≤ n ∧ n < 55441) := by
  have := inR_false h; omega
theorem isNum_yes {n : Int} (h : 0 ≤ n) (h' : n < 55441) : isNum n = true := inR_yes h (by omega)
theorem isNum_no {n : Int} (h : ¬ (0 ≤ n ∧ n < 55441)) : isNum n = false := inR_no (by omega)

theorem c_IsNumber (n : Int) (w : World) :
    Calls Tryd.prog 23 #[.int .i64 n] w fun e w' => e = .returned (.bool (isNum n)) ∧ w = w' := by
  go_enter Tryd.func23, Tryd.ntmps23
  go_wp2_with (go_at_call 38; refine (c_within _ _ _ _).mono ?_; rintro e w' ⟨rfl, rfl⟩)
  go_ret
  exact ⟨rfl, rfl⟩
theorem c_l01Number (n : Int) (w : World) :
    Calls Tryd.prog 22 #[.int .i64 n] w fun e w' => e = .returned (.bool (isNum n)) ∧ w = w' := by
  go_enter Tryd.func22, Tryd.ntmps22
  go_wp2_with (go_at_call 37; refine (c_l01In _ _ _ _).mono ?_; rintro e w' ⟨rfl, rfl⟩)
  go_ret
  exact ⟨rfl, rfl⟩

/-- the remainder of whatever integer -/
theorem tmod_bd (a : Int) : -55441 < a.tmod 55441 ∧ a.tmod 55441 < 55441 := by
  have := Int.tmod_lt_of_pos a (show (0:Int) < 55441 by omega)
  have := Int.lt_tmod_of_pos a (show (0:Int) < 55441 by omega)
  omega
theorem tmod_mod (a : Int) : (a.tmod 55441 + 55441) % 55441 = a % 55441 := by
  have h := Int.mul_tdiv_add_tmod a 55441
  omega

theorem c_mod (a : Int) (w : World) :
    Calls Tryd.prog 45 #[.int .i64 a] w fun e w' => e = .returned (.int .i64 (a % 55441)) ∧ w = w' := by
  have hb := tmod_bd a
  go_enter Tryd.func45, Tryd.ntmps45
  go_wp2
  go_ret
  exact ⟨ret_int (tmod_mod a), rfl⟩
theorem c_l01Mod (a : Int) (w : World) :
    Calls Tryd.prog 18 #[.int .i64 a] w fun e w' => e = .returned (.int .i64 (a % 55441)) ∧ w = w' := by
  have hb := tmod_bd a
  go_enter Tryd.func18, Tryd.ntmps18
  go_wp2
  go_ret
  exact ⟨ret_int (tmod_mod a), rfl⟩

/-- the power as an integer -/
def ipw (a k : Int) : Int := (Fus.pw a.toNat k.toNat : Nat)
theorem ipw_bd (a k : Int) : 0 ≤ ipw a k ∧ ipw a k < 55441 := by
  have := Fus.pw_lt a.toNat k.toNat
  unfold ipw; omega
/-- what a power's loop keeps -/
def powRel (p a k : Int) (S : Int) : Prop := 0 ≤ p ∧ p < 55441 ∧ 0 ≤ a ∧ a < 55441 ∧ 0 ≤ k ∧ ((p.toNat * a.toNat ^ k.toNat % 55441 : Nat) : Int) = S
theorem powRel_start (a k : Int) (ha : 0 ≤ a) (ha' : a < 55441) (hk : 0 ≤ k) : powRel 1 a k (ipw a k) :=
  ⟨by omega, by omega, ha, ha', hk, by simp [ipw, Fus.pw]⟩
theorem powRel_end {p a S : Int} (h : powRel p a 0 S) : S = p := by
  obtain ⟨h1, h2, _, _, _, h⟩ := h
  simp at h; omega
theorem toNat_mulmod (x y : Int) (hx : 0 ≤ x) (hy : 0 ≤ y) : (x * y % 55441).toNat = x.toNat * y.toNat % 55441 := by
  obtain ⟨m, rfl⟩ := Int.eq_ofNat_of_zero_le hx
  obtain ⟨n, rfl⟩ := Int.eq_ofNat_of_zero_le hy
  simp only [Int.toNat_natCast]
  omega
theorem powRel_odd {p a k S : Int} (h : powRel p a k S) (hk : k % 2 = 1) : powRel (p * a % 55441) (a * a % 55441) (k / 2) S := by
  obtain ⟨h1, h2, h3, h4, h5, h⟩ := h
  refine ⟨by omega, by omega, by omega, by omega, by omega, ?_⟩
  rw [toNat_mulmod _ _ h1 h3, toNat_mulmod _ _ h3 h3, show (k / 2).toNat = k.toNat / 2 from by omega, Fus.pw_odd _ _ _ (by omega)]
  exact h
theorem powRel_even {p a k S : Int} (h : powRel p a k S) (hk : k % 2 = 0) : powRel p (a * a % 55441) (k / 2) S := by
  obtain ⟨h1, h2, h3, h4, h5, h⟩ := h
  refine ⟨by omega, by omega, by omega, by omega, by omega, ?_⟩
  rw [toNat_mulmod _ _ h3 h3, show (k / 2).toNat = k.toNat / 2 from by omega, Fus.pw_even _ _ _ (by omega)]
  exact h
theorem prod_bd {x y : Int} (h1 : 0 ≤ x) (h2 : x < 55441) (h3 : 0 ≤ y) (h4 : y < 55441) : 0 ≤ x * y ∧ x * y ≤ 3073593600 :=
  ⟨Int.mul_nonneg h1 h3, Int.le_trans (Int.mul_le_mul (show x ≤ 55440 by omega) (show y ≤ 55440 by omega) h3 (by omega)) (by omega)⟩

theorem c_power (a0 k0 : Int) (w : World) (ha : 0 ≤ a0) (ha' : a0 < 55441) (hk : 0 ≤ k0) (hk' : k0 ≤ 1000000000) :
    Calls Tryd.prog 52 #[.int .i64 a0, .int .i64 k0] w fun e w' => e = .returned (.int .i64 (ipw a0 k0)) ∧ w = w' := by
  go_enter Tryd.func52, Tryd.ntmps52
  go_wp2
  go_loop [0, 1, 5] (fun a k p => ∃ (a' k' p' : Int), k' ≤ k0 ∧ a = .int .i64 a' ∧ k = .int .i64 k' ∧ p = .int .i64 p' ∧ powRel p' a' k' (ipw a0 k0)) (fun _ k _ => (intOf k).toNat)
  case atStart => exact ⟨_, _, _, by omega, rfl, rfl, rfl, powRel_start _ _ ha ha' hk⟩
  case round =>
    obtain ⟨a', k', p', hkk, rfl, rfl, rfl, hrel⟩ := hrel
    have h1 := hrel.1
    have h2 := hrel.2.1
    have h3 := hrel.2.2.1
    have h4 := hrel.2.2.2.1
    have h5 := hrel.2.2.2.2.1
    have H := Lib.hid hrel
    clear hrel
    have b1 := prod_bd h1 h2 h3 h4
    have b2 := prod_bd h3 h4 h3 h4
    obtain ⟨b11, b12⟩ := b1
    obtain ⟨b21, b22⟩ := b2
    go_wp2
    · go_round
      case rel => exact ⟨_, _, _, by omega, rfl, rfl, rfl, powRel_odd H.out (by simp_all)⟩
      case measure => simp [intOf]; omega
    · go_round
      case rel => exact ⟨_, _, _, by omega, rfl, rfl, rfl, powRel_even H.out (by simp_all; omega)⟩
      case measure => simp [intOf]; omega
    · go_ret
      have hk0 : k' = 0 := by omega
      subst hk0
      exact ⟨ret_int (powRel_end H.out).symm, rfl⟩
theorem c_l01Pow (a0 k0 : Int) (w : World) (ha : 0 ≤ a0) (ha' : a0 < 55441) (hk : 0 ≤ k0) (hk' : k0 ≤ 1000000000) :
    Calls Tryd.prog 32 #[.int .i64 a0, .int .i64 k0] w fun e w' => e = .returned (.int .i64 (ipw a0 k0)) ∧ w = w' := by
  go_enter Tryd.func32, Tryd.ntmps32
  go_wp2
  go_loop [0, 1, 5] (fun a k p => ∃ (a' k' p' : Int), k' ≤ k0 ∧ a = .int .i64 a' ∧ k = .int .i64 k' ∧ p = .int .i64 p' ∧ powRel p' a' k' (ipw a0 k0)) (fun _ k _ => (intOf k).toNat)
  case atStart => exact ⟨_, _, _, by omega, rfl, rfl, rfl, powRel_start _ _ ha ha' hk⟩
  case round =>
    obtain ⟨a', k', p', hkk, rfl, rfl, rfl, hrel⟩ := hrel
    have h1 := hrel.1
    have h2 := hrel.2.1
    have h3 := hrel.2.2.1
    have h4 := hrel.2.2.2.1
    have h5 := hrel.2.2.2.2.1
    have H := Lib.hid hrel
    clear hrel
    have b1 := prod_bd h1 h2 h3 h4
    have b2 := prod_bd h3 h4 h3 h4
    obtain ⟨b11, b12⟩ := b1
    obtain ⟨b21, b22⟩ := b2
    go_wp2
    · go_round
      case rel => exact ⟨_, _, _, by omega, rfl, rfl, rfl, powRel_odd H.out (by simp_all)⟩
      case measure => simp [intOf]; omega
    · go_round
      case rel => exact ⟨_, _, _, by omega, rfl, rfl, rfl, powRel_even H.out (by simp_all; omega)⟩
      case measure => simp [intOf]; omega
    · go_ret
      have hk0 : k' = 0 := by omega
      subst hk0
      exact ⟨ret_int (powRel_end H.out).symm, rfl⟩

/-- the inverse as an integer -/
def iinv (a : Int) : Int := ipw a 55439
theorem iinv_bd (a : Int) : 0 ≤ iinv a ∧ iinv a < 55441 := ipw_bd _ _
theorem iinv_eq (a : Int) : ipw a 55439 = iinv a := rfl
theorem ipw_eq (a k : Int) : ipw a k = (Fus.pw a.toNat k.toNat : Nat) := rfl
theorem iinv_nat (a : Int) : iinv a = (Fus.inv a.toNat : Nat) := by unfold iinv Fus.inv; rfl
attribute [irreducible] ipw iinv

theorem c_divide (a b : Int) (w : World) (ha : 0 ≤ a) (ha' : a < 55441) (hb : 0 ≤ b) (hb' : b < 55441) :
    Calls Tryd.prog 46 #[.int .i64 a, .int .i64 b] w fun e w' => e = .returned (.int .i64 (a * iinv b % 55441)) ∧ w = w' := by
  have hi := iinv_bd b
  have hp := prod_bd ha ha' hi.1 hi.2
  obtain ⟨hp1, hp2⟩ := hp
  obtain ⟨hi1, hi2⟩ := hi
  go_enter Tryd.func46, Tryd.ntmps46
  go_wp2_with (go_at_call 52; refine (c_power b 55439 _ hb hb' (by omega) (by omega)).mono ?_; rintro e w' ⟨rfl, rfl⟩; rw [iinv_eq])
  go_ret
  exact ⟨rfl, rfl⟩
theorem c_l01Inv (a : Int) (w : World) (ha : 0 ≤ a) (ha' : a < 55441) :
    Calls Tryd.prog 19 #[.int .i64 a] w fun e w' => e = .returned (.int .i64 (iinv a)) ∧ w = w' := by
  go_enter Tryd.func19, Tryd.ntmps19
  go_wp2_with (go_at_call 32; refine (c_l01Pow a 55439 _ ha ha' (by omega) (by omega)).mono ?_; rintro e w' ⟨rfl, rfl⟩; rw [iinv_eq])
  go_ret
  exact ⟨rfl, rfl⟩

/-! results of two integers -/
def fracN (p q : Int) : Int × Int :=
  if -1000000000 ≤ p ∧ p ≤ 1000000000 ∧ -1000000000 ≤ q ∧ q ≤ 1000000000 then
    if q % 55441 = 0 then (0, 5) else ((p % 55441) * iinv (q % 55441) % 55441, 0)
  else (0, 2)
def both (a b : Int) (r : Int × Int) : Int × Int := if isNum a = true ∧ isNum b = true then r else (0, 2)
def addN (a b : Int) : Int × Int := both a b ((a + b) % 55441, 0)
def subN (a b : Int) : Int × Int := both a b ((a - b) % 55441, 0)
def mulN (a b : Int) : Int × Int := both a b (a * b % 55441, 0)
def divN (a b : Int) : Int × Int := both a b (if b = 0 then (0, 5) else (a * iinv b % 55441, 0))
/-- the walk's form of a result of two integers -/
def two (r : Int × Int) : Value := .tuple #[.int .i64 r.1, .int .i64 r.2]

theorem both_no {a b : Int} {r : Int × Int} (h : ¬ (isNum a = true ∧ isNum b = true)) : both a b r = (0, 2) := if_neg h
theorem both_yes {a b : Int} {r : Int × Int} (h : isNum a = true) (h' : isNum b = true) : both a b r = r := if_pos ⟨h, h'⟩

theorem c_FractionNumber (p q : Int) (w : World) :
    Calls Tryd.prog 36 #[.int .i64 p, .int .i64 q] w fun e w' => e = .returned (two (fracN p q)) ∧ w = w' := by
  by_cases h1 : -1000000000 ≤ p ∧ p ≤ 1000000000
  · by_cases h2 : -1000000000 ≤ q ∧ q ≤ 1000000000
    · have hp1 : 0 ≤ p % 55441 := by omega
      have hp2 : p % 55441 < 55441 := by omega
      have hq1 : 0 ≤ q % 55441 := by omega
      have hq2 : q % 55441 < 55441 := by omega
      have hi := iinv_bd (q % 55441)
      obtain ⟨hi1, hi2⟩ := hi
      have hpr := prod_bd hp1 hp2 hi1 hi2
      obtain ⟨hpr1, hpr2⟩ := hpr
      have e1 : inR (-1000000000) 1000000000 p = true := inR_yes (by omega) (by omega)
      have e2 : inR (-1000000000) 1000000000 q = true := inR_yes (by omega) (by omega)
      by_cases h3 : q % 55441 = 0
      · have H3 : (q % 55441 == 0) = true := by simp [h3]
        have H : Hid (fracN p q = (0, 5)) := Lib.hid (by unfold fracN; rw [if_pos (by omega), if_pos h3])
        clear h3
        go_enter Tryd.func36, Tryd.ntmps36
        go_wp2_with (first | (go_at_call 38; refine (c_within _ _ _ _).mono ?_; rintro e w' ⟨rfl, rfl⟩; simp only [e1, e2]) | (go_at_call 45; refine (c_mod _ _).mono ?_; rintro e w' ⟨rfl, rfl⟩) | (go_at_call 46; refine (c_divide _ _ _ hp1 hp2 hq1 hq2).mono ?_; rintro e w' ⟨rfl, rfl⟩))
        go_ret2
        exact ⟨ret_two H.out, rfl⟩
      · have H3 : (q % 55441 == 0) = false := by simp [h3]
        have H : Hid (fracN p q = ((p % 55441) * iinv (q % 55441) % 55441, 0)) := Lib.hid (by unfold fracN; rw [if_pos (by omega), if_neg h3])
        clear h3
        go_enter Tryd.func36, Tryd.ntmps36
        go_wp2_with (first | (go_at_call 38; refine (c_within _ _ _ _).mono ?_; rintro e w' ⟨rfl, rfl⟩; simp only [e1, e2]) | (go_at_call 45; refine (c_mod _ _).mono ?_; rintro e w' ⟨rfl, rfl⟩) | (go_at_call 46; refine (c_divide _ _ _ hp1 hp2 hq1 hq2).mono ?_; rintro e w' ⟨rfl, rfl⟩))
        go_ret2
        exact ⟨ret_two H.out, rfl⟩
    · have e1 : inR (-1000000000) 1000000000 p = true := inR_yes (by omega) (by omega)
      have e2 : inR (-1000000000) 1000000000 q = false := inR_no (by omega)
      have H : Hid (fracN p q = (0, 2)) := Lib.hid (by unfold fracN; rw [if_neg (by omega)])
      go_enter Tryd.func36, Tryd.ntmps36
      go_wp2_with (first | (go_at_call 38; refine (c_within _ _ _ _).mono ?_; rintro e w' ⟨rfl, rfl⟩; simp only [e1, e2]))
      go_ret2
      exact ⟨ret_two H.out, rfl⟩
  · have e1 : inR (-1000000000) 1000000000 p = false := inR_no (by omega)
    have H : Hid (fracN p q = (0, 2)) := Lib.hid (by unfold fracN; rw [if_neg (by omega)])
    go_enter Tryd.func36, Tryd.ntmps36
    go_wp2_with (first | (go_at_call 38; refine (c_within _ _ _ _).mono ?_; rintro e w' ⟨rfl, rfl⟩; simp only [e1]))
    go_ret2
    exact ⟨ret_two H.out, rfl⟩

end Go.Proofs.YtcgmbpkichfalaaDoor
