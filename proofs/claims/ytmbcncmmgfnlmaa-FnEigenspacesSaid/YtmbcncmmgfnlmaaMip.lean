/- Powers of tables, the theorem of Cayley and Hamilton, and the first coefficients of a characteristic polynomial. No walk. -/
import Derived.Test.YtmbcncmmgfnlmaaGpw
import Derived.Test.YtmbcncmmgfnlmaaAlg
namespace Fus
/-- powers -/
def mpw (n : Nat) (A : Mx) : Nat → Mx
  | 0 => one
  | k + 1 => mm n A (mpw n A k)
theorem pw_right {n : Nat} {A : Mx} : ∀ k {i j : Nat}, i < n → j < n → mpw n A (k + 1) i j = mm n (mpw n A k) A i j
  | 0, i, j, hi, hj => by
    show mm n A one i j = mm n one A i j
    rw [mm_one A i hj, one_mm A j hi]
  | k + 1, i, j, hi, hj => by
    show mm n A (mpw n A (k + 1)) i j = mm n (mm n A (mpw n A k)) A i j
    rw [mm_assoc]
    exact mm_congr (fun _ _ => rfl) fun l hl => pw_right k hl hj
theorem pw_sq (n : Nat) (A : Mx) : ∀ k i j, mpw n (mm n A A) k i j = mpw n A (2 * k) i j
  | 0, _, _ => rfl
  | k + 1, i, j => by
    show mm n (mm n A A) (mpw n (mm n A A) k) i j = mm n A (mm n A (mpw n A (2 * k))) i j
    rw [mm_assoc]
    exact mm_congr (fun _ _ => rfl) fun l _ => mm_congr (fun _ _ => rfl) fun l' _ => pw_sq n A k l' j
theorem D_neg : ∀ (n : Nat) (f : Mx), D n (fun i j => - f i j) = if n % 2 = 0 then D n f else - D n f
  | 0, f => rfl
  | n + 1, f => by
    rw [D_succ, D_succ]
    have e : ∀ i, minor (fun i j => - f i j) i = fun a b => - minor f i a b := fun i => rfl
    by_cases h : n % 2 = 0
    · rw [if_neg (by omega)]
      have : ∀ i, i < n + 1 → sgn (n + i) * - f i n * D n (minor (fun i j => - f i j) i) = -1 * (sgn (n + i) * f i n * D n (minor f i)) := fun i _ => by
        rw [e, D_neg n, if_pos h]; grind
      rw [sm_congr this, sm_mul]
      grind
    · rw [if_pos (by omega)]
      refine sm_congr fun i _ => ?_
      rw [e, D_neg n, if_neg h]; grind
theorem fp_zero (k : Nat) : fp 0 (k + 1) = 0 := by
  show fp 0 k * 0 = 0
  grind
theorem hpoly_lead (n : Nat) (A : Mx) : hpoly n A n = 1 := hp_lead _ n
theorem hpoly_det {n : Nat} (hn : 1 ≤ n) (A : Mx) : hpoly n A 0 = if n % 2 = 0 then D n A else - D n A := by
  have h := chi_hpoly hn A 0
  unfold chi ev at h
  rw [sm_one (k := 0) (by omega) (fun i _ hi => by
    obtain ⟨k, rfl⟩ : ∃ k, i = k + 1 := ⟨i - 1, by omega⟩
    rw [fp_zero]; grind)] at h
  have h0 : fp 0 0 = 1 := rfl
  rw [h0] at h
  have h1 : D n (xz A 0) = D n (fun i j => - A i j) := D_congr fun i j _ _ => by unfold xz; split <;> grind
  rw [h1, D_neg] at h
  grind
theorem hpoly_trace {n : Nat} (hn : 1 ≤ n) (hn' : n ≤ 1000) (A : Mx) : hpoly n A (n - 1) = - trc n A := by
  rw [← fl_hpoly hn hn' A (k := 1) hn, (fl_succ n A 0).2]
  have e : trc n (mm n A (fl n A (0 + 1)).2) = trc n A := trc_congr fun i hi => by
    rw [← mm_one A i hi]
    refine mm_congr (fun _ _ => rfl) fun l _ => ?_
    rw [(fl_succ n A 0).1]
    show mm n A (fun _ _ => 0) l i + (if l = i then 1 else 0) = one l i
    have : mm n A (fun _ _ => 0) l i = 0 := sm_zero fun k _ => by grind
    rw [this]
    unfold one
    grind
  have h1 : nf (0 + 1) = 1 := by show (0 : F) + 1 = 1; grind
  rw [e, h1, finv_one]
  grind
/-- the theorem of Cayley and Hamilton -/
theorem cayley {n : Nat} (hn : 1 ≤ n) (hn' : n ≤ 1000) (A : Mx) {i j : Nat} (hi : i < n) (hj : j < n) : sm (n + 1) (fun l => hpoly n A l * mpw n A l i j) = 0 := by
  obtain ⟨C, hC0, hCs, hCz, _⟩ := cof_coeffs hn' (chi_hpoly hn A) (fun l hl => hp_deg _ n l hl)
  have main : ∀ m, sm (m + 1) (fun l => hpoly n A l * mpw n A l i j) = - mm n (mpw n A (m + 1)) (C m) i j := by
    intro m
    induction m with
    | zero =>
      show 0 + hpoly n A 0 * one i j = - mm n (mm n A one) (C 0) i j
      have h := hCz i j hi hj
      have e : mm n (mm n A one) (C 0) i j = mm n A (C 0) i j := mm_congr (fun k hk => mm_one A i hk) fun _ _ => rfl
      rw [e, h]
      unfold one
      grind
    | succ m ih =>
      rw [sm_succ, ih]
      have h1 : mm n (mpw n A (m + 1)) (fun k l => C m k l - mm n A (C (m + 1)) k l) i j = mpw n A (m + 1) i j * hpoly n A (m + 1) := by
        rw [show mm n (mpw n A (m + 1)) (fun k l => C m k l - mm n A (C (m + 1)) k l) i j = sm n (fun k => mpw n A (m + 1) i k * (if k = j then hpoly n A (m + 1) else 0)) from sm_congr fun k hk => by show _ * (C m k j - mm n A (C (m + 1)) k j) = _; rw [hCs m k j hk hj]]
        exact sm_pick hj _ _
      have h2 : mm n (mpw n A (m + 1)) (fun k l => C m k l - mm n A (C (m + 1)) k l) i j = mm n (mpw n A (m + 1)) (C m) i j - mm n (mpw n A (m + 1)) (mm n A (C (m + 1))) i j := by
        show sm n _ = sm n _ - sm n _
        rw [← sm_sub]
        exact sm_congr fun k _ => by grind
      have h3 : mm n (mpw n A (m + 1 + 1)) (C (m + 1)) i j = mm n (mpw n A (m + 1)) (mm n A (C (m + 1))) i j := by
        rw [← mm_assoc]
        exact mm_congr (fun k hk => pw_right (m + 1) hi hk) fun _ _ => rfl
      rw [h3]
      grind
  rw [main n]
  have : mm n (mpw n A (n + 1)) (C n) i j = 0 := sm_zero fun k hk => by rw [hC0 n k j hk hj (Nat.le_refl _)]; grind
  rw [this]
  grind
end Fus
namespace Go.Proofs.Ytmbcncmmgfnlmaa
open Go.RowKit
open Fus (F Mx toI ofI mm one mpw mm_assoc mm_one mm_congr pw_sq)
/-- the loop of a power reckons the power -/
theorem ploop_pw {n : Nat} : ∀ (k : Nat) (p a : Mx) {i j : Nat}, j < n → ploop n p a k i j = mm n p (mpw n a k) i j := by
  intro k
  induction k using Nat.strongRecOn with
  | ind k ih =>
    intro p a i j hj
    by_cases h0 : k = 0
    · subst h0
      rw [ploop_zero]
      exact (mm_one p i hj).symm
    · by_cases h : k % 2 = 1
      · rw [ploop_odd h, ih (k / 2) (by omega) _ _ hj, mm_assoc]
        refine mm_congr (fun _ _ => rfl) fun l _ => ?_
        obtain ⟨q, rfl⟩ : ∃ q, k = 2 * q + 1 := ⟨k / 2, by omega⟩
        rw [show (2 * q + 1) / 2 = q by omega]
        show _ = mm n a (mpw n a (2 * q)) l j
        exact mm_congr (fun _ _ => rfl) fun l' _ => pw_sq n a q l' j
      · rw [ploop_even (by omega) (by omega), ih (k / 2) (by omega) _ _ hj]
        refine mm_congr (fun _ _ => rfl) fun l _ => ?_
        rw [pw_sq]
        rw [show 2 * (k / 2) = k by omega]
/-- what a power answers -/
theorem powM_ok {m : List (List Int)} (h : sqCode m true = 0) {k : Nat} (hk : k ≤ 1000000) : powM m k = (tabF m.length m.length (mpw m.length (entF m) k), 0) := by
  unfold powM
  have e : inR 0 1000000 (k : Int) = true := by unfold inR; simp; omega
  rw [e, if_pos h]
  refine congrArg (·, 0) (tabF_congr fun i j hi hj => ?_)
  show ploop m.length one (entF m) k i j = _
  rw [ploop_pw k _ _ hj]
  exact Fus.one_mm _ j hi
end Go.Proofs.Ytmbcncmmgfnlmaa
