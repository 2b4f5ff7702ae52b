/- Plain arithmetic of square roots, logarithms and short fractions. No program in sight. -/
import Derived.Test.YtcgmbpkichfalaaDoorNum
namespace Fus

/-- the first number below n that a test says yes to -/
def least (p : Nat → Bool) (n : Nat) : Option Nat := (List.range n).find? p
theorem least_none {p : Nat → Bool} {n : Nat} (h : ∀ j, j < n → p j = false) : least p n = none := by
  unfold least; rw [List.find?_eq_none]; intro x hx; simp [h x (List.mem_range.1 hx)]
theorem least_some {p : Nat → Bool} {n k : Nat} (hk : k < n) (hp : p k = true) (h : ∀ j, j < k → p j = false) : least p n = some k := by
  have e : n = k + (1 + (n - k - 1)) := by omega
  have h0 : (List.range k).find? p = none := List.find?_eq_none.2 fun x hx => by simp [h x (List.mem_range.1 hx)]
  unfold least
  rw [e, List.range_add, List.find?_append, h0, List.range_add, List.map_append, List.find?_append]
  simp [hp]
theorem least_cases (p : Nat → Bool) (n : Nat) : (∃ k, k < n ∧ p k = true ∧ (∀ j, j < k → p j = false) ∧ least p n = some k) ∨ ((∀ j, j < n → p j = false) ∧ least p n = none) := by
  induction n with
  | zero => exact .inr ⟨fun j hj => absurd hj (Nat.not_lt_zero _), rfl⟩
  | succ n ih =>
    rcases ih with ⟨k, hk, hp, hj, _⟩ | ⟨hj, _⟩
    · exact .inl ⟨k, by omega, hp, hj, least_some (by omega) hp hj⟩
    · cases hn : p n
      · have : ∀ j, j < n + 1 → p j = false := fun j h => by
          by_cases e : j = n
          · rw [e]; exact hn
          · exact hj j (by omega)
        exact .inr ⟨this, least_none this⟩
      · exact .inl ⟨n, by omega, hn, hj, least_some (by omega) hn hj⟩
theorem least_congr {p q : Nat → Bool} {n : Nat} (h : ∀ j, j < n → p j = q j) : least p n = least q n := by
  rcases least_cases q n with ⟨k, hk, hp, hj, e⟩ | ⟨hj, e⟩
  · rw [e]; exact least_some hk (by rw [h k hk]; exact hp) (fun j hj' => by rw [h j (by omega)]; exact hj j hj')
  · rw [e]; exact least_none (fun j hj' => by rw [h j hj']; exact hj j hj')

/-! square roots -/
def isRoot (a : Int) (s : Nat) : Bool := decide ((s : Int) * (s : Int) % 55441 = a)
theorem root_turn (a : Int) (s : Nat) (h : s ≤ 55441) : isRoot a (55441 - s) = isRoot a s := by
  unfold isRoot
  congr 1
  have : (((55441 - s : Nat) : Int)) = 55441 - (s : Int) := by omega
  rw [this]
  have e : (55441 - (s : Int)) * (55441 - (s : Int)) = s * s + 55441 * (55441 - 2 * s) := by
    simp only [Int.sub_mul, Int.mul_sub]; omega
  rw [e, Int.add_mul_emod_self_left]
theorem root_half (a : Int) : least (isRoot a) 55441 = least (isRoot a) 27721 := by
  rcases least_cases (isRoot a) 55441 with ⟨k, hk, hp, hj, e⟩ | ⟨hj, e⟩
  · rw [e]
    by_cases h : k < 27721
    · exact (least_some h hp hj).symm
    · have h1 := hj (55441 - k) (by omega)
      rw [root_turn a k (by omega), hp] at h1
      exact absurd h1 (by simp)
  · rw [e]; exact (least_none (fun j h => hj j (by omega))).symm

/-! logarithms -/
def logN (a : Nat) : Nat := (least (fun k => decide (pw 38 k = a)) 55440).getD 0
theorem logN_spec (a : Nat) (h1 : 1 ≤ a) (h2 : a < 55441) : logN a < 55440 ∧ pw 38 (logN a) = a ∧ ∀ j, j < logN a → pw 38 j ≠ a := by
  obtain ⟨k, hk, hka⟩ := exists_log a h1 h2
  rcases least_cases (fun k => decide (pw 38 k = a)) 55440 with ⟨l, hl, hp, hj, e⟩ | ⟨hj, e⟩
  · have : logN a = l := by unfold logN; rw [e]; rfl
    rw [this]
    exact ⟨hl, of_decide_eq_true hp, fun j hj' => of_decide_eq_false (hj j hj')⟩
  · exact absurd hka (of_decide_eq_false (hj k hk))

/-! short fractions -/
/-- the remainder of a times q around 0 -/
def cres (a : Int) (q : Int) : Int := if 27720 < a * q % 55441 then a * q % 55441 - 55441 else a * q % 55441
theorem cres_bd (a q : Int) : -27720 ≤ cres a q ∧ cres a q ≤ 27720 := by unfold cres; split <;> omega
theorem cres_mod (a q : Int) : cres a q % 55441 = a * q % 55441 := by unfold cres; split <;> omega
theorem cres_uniq (a q p : Int) (h1 : -27720 ≤ p) (h2 : p ≤ 27720) (h : p % 55441 = a * q % 55441) : cres a q = p := by
  unfold cres; split <;> omega
/-- is the i-th fraction short -/
def okS (a : Int) (i : Nat) : Bool := decide (-166 ≤ cres a (i + 1)) && decide (cres a (i + 1) ≤ 166)
def okQ (a : Int) (i : Nat) : Bool := okS a i && decide (Int.gcd (cres a (i + 1)) (i + 1) = 1)
/-- an integer that is no multiple of the prime can be cancelled -/
theorem icancel (d x : Int) (h1 : 0 < d) (h2 : d < 55441) (h : d * x % 55441 = 0) : x % 55441 = 0 := by
  have hx : (d.toNat * (x % 55441).toNat) % 55441 = d.toNat * 0 % 55441 := by
    have e1 : d * (x % 55441) % 55441 = 0 := by rw [Int.mul_emod, Int.emod_emod_of_dvd _ (Int.dvd_refl _), ← Int.mul_emod]; exact h
    obtain ⟨m, rfl⟩ := Int.eq_ofNat_of_zero_le (show 0 ≤ d by omega)
    obtain ⟨n, hn⟩ := Int.eq_ofNat_of_zero_le (show 0 ≤ x % 55441 by omega)
    rw [hn] at e1 ⊢
    simp only [Int.toNat_natCast, Nat.mul_zero, Nat.zero_mod]
    omega
  have := cancel d.toNat (x % 55441).toNat 0 (by omega) (by omega) hx
  omega
theorem first_short (a : Int) (i : Nat) (hi : i < 166) (h : okS a i = true) (hj : ∀ j, j < i → okS a j = false) : okQ a i = true := by
  have hb : -166 ≤ cres a (i + 1) ∧ cres a (i + 1) ≤ 166 := by simpa [okS] using h
  unfold okQ
  rw [h, Bool.true_and, decide_eq_true_iff]
  refine Decidable.byContradiction fun hg => ?_
  have g1 := Int.gcd_dvd_left (a := cres a (i + 1)) (b := i + 1)
  have g2 := Int.gcd_dvd_right (a := cres a (i + 1)) (b := i + 1)
  have gpos : 0 < Int.gcd (cres a (i + 1)) (i + 1) := Nat.pos_of_ne_zero fun e => by
    rw [Int.gcd_eq_zero_iff] at e; omega
  generalize Int.gcd (cres a (i + 1)) (i + 1) = d at *
  obtain ⟨p', hp'⟩ := g1
  obtain ⟨q', hq'⟩ := g2
  have hd : 2 ≤ (d : Int) := by omega
  have hq1 : 1 ≤ q' := Decidable.byContradiction fun hn => by
    have := Int.mul_nonneg (show (0 : Int) ≤ d by omega) (show 0 ≤ -q' by omega)
    rw [Int.mul_neg] at this; omega
  have hq2 : q' * 2 ≤ i + 1 := by
    have := Int.mul_le_mul_of_nonneg_right hd (show 0 ≤ q' by omega)
    omega
  have hdi : (d : Int) ≤ i + 1 := by
    have := Int.mul_le_mul_of_nonneg_left hq1 (show (0 : Int) ≤ d by omega)
    omega
  have hmul : ∀ y : Int, 0 ≤ y → 2 * y ≤ d * y := fun y hy => Int.mul_le_mul_of_nonneg_right hd hy
  have hp1 : -166 ≤ p' ∧ p' ≤ 166 := by
    rcases Int.le_total 0 p' with hp | hp
    · have := hmul p' hp; omega
    · have := hmul (-p') (by omega); simp only [Int.mul_neg] at this; omega
  have key : p' % 55441 = a * q' % 55441 := by
    have h1 := cres_mod a (i + 1)
    rw [hp', hq'] at h1
    have h2 : d * (a * q' - p') % 55441 = 0 := by
      rw [Int.mul_sub, show (d : Int) * (a * q') = a * (d * q') from by rw [← Int.mul_assoc, ← Int.mul_assoc, Int.mul_comm a]]
      omega
    have h3 := icancel d _ (by omega) (by omega) h2
    omega
  have hc := cres_uniq a q' p' (by omega) (by omega) key
  have hjj := hj (q'.toNat - 1) (by omega)
  have e : (((q'.toNat - 1 : Nat) : Int) + 1) = q' := by omega
  simp [okS, e, hc] at hjj
  omega
theorem short_same (a : Int) : least (okQ a) 166 = least (okS a) 166 := by
  rcases least_cases (okS a) 166 with ⟨k, hk, hp, hj, e⟩ | ⟨hj, e⟩
  · rw [e]
    exact least_some hk (first_short a k hk hp hj) (fun j h => by simp [okQ, hj j h])
  · rw [e]; exact least_none (fun j h => by simp [okQ, hj j h])
def shortOf (a : Int) (o : Option Nat) : Int × Int := match o with | some i => (cres a (i + 1), i + 1) | none => (0, 0)
/-- the short fraction of a number, (0, 0) if there is none -/
def shortF (a : Int) : Int × Int := shortOf a (least (okS a) 166)
theorem shortF_Q (a : Int) : shortF a = shortOf a (least (okQ a) 166) := by unfold shortF; rw [short_same]
def rootF (a : Int) : Int := match least (isRoot a) 27721 with | some i => (i : Int) | none => -1
theorem rootF_full (a : Int) : rootF a = match least (isRoot a) 55441 with | some i => (i : Int) | none => -1 := by unfold rootF; rw [root_half]
theorem shortF_cases (a : Int) : shortF a = (0, 0) ∨ ∃ q : Int, 1 ≤ q ∧ q ≤ 166 ∧ shortF a = (cres a q, q) ∧ -166 ≤ cres a q ∧ cres a q ≤ 166 ∧ Int.gcd (cres a q) q = 1 := by
  rw [shortF_Q]
  rcases least_cases (okQ a) 166 with ⟨k, hk, hp, _, e⟩ | ⟨_, e⟩
  · right
    rw [e]
    simp only [okQ, okS, Bool.and_eq_true, decide_eq_true_iff] at hp
    exact ⟨k + 1, by omega, by omega, rfl, hp.1.1, hp.1.2, hp.2⟩
  · left; rw [e]; rfl
theorem rootF_bd (a : Int) : -1 ≤ rootF a ∧ rootF a ≤ 27720 := by
  unfold rootF
  rcases least_cases (isRoot a) 27721 with ⟨k, hk, _, _, e⟩ | ⟨_, e⟩
  · rw [e]; simp only; omega
  · rw [e]; simp
attribute [irreducible] cres okS okQ isRoot shortF rootF logN
end Fus
