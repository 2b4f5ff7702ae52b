/- Walks of the prime field's functions, second part: quotients, powers, orders, roots, logarithms, short fractions. -/
import Derived.Test.YtmbcncmmgfnlmaaSl
import Derived.Test.YtmbcncmmgfnlmaaNum
import Derived.Deep.RegionWith
import Derived.IntWalk
namespace Go.Proofs.Ytmbcncmmgfnlmaa
open Go.RowKit

theorem iinv_zero : iinv 0 = 0 := by rw [iinv_nat]; exact congrArg Int.ofNat Fus.inv_zero
theorem one_iinv (x : Int) : 1 * iinv x % 55441 = iinv x := by have := iinv_bd x; omega


/-- a power with an exponent of whatever sign -/
def zpw (a k : Int) : Int := if k < 0 then iinv (ipw a (-k)) else ipw a k
theorem iinv_ipw (a k : Int) : iinv (ipw a k) = ipw (iinv a) k := by
  rw [iinv_nat, ipw_eq, ipw_eq, iinv_nat]
  simp only [Int.toNat_natCast]
  unfold Fus.inv
  rw [Fus.pw_pw, Fus.pw_pw, Nat.mul_comm]
def powN (a k : Int) : Int × Int :=
  if isNum a = true ∧ inR (-1000000) 1000000 k = true then (if a = 0 ∧ k < 0 then (0, 5) else (zpw a k, 0)) else (0, 2)


end Go.Proofs.Ytmbcncmmgfnlmaa

/- Plain arithmetic of square roots, logarithms and short fractions. No program in sight. -/
namespace Fus

/-- the first number below n that a test says yes to -/
def least (p : Nat → Bool) (n : Nat) : Option Nat := (List.range n).find? p
theorem least_none {p : Nat → Bool} {n : Nat} (h : ∀ j, j < n → p j = false) : least p n = none := by
  unfold least; rw [List.find?_eq_none]; intro x hx; simp [h x (List.mem_range.1 hx)]
theorem least_some {p : Nat → Bool} {n k : Nat} (hk : k < n) (hp : p k = true) (h : ∀ j, j < k → p j = false) : least p n = some k := by
  have e : n = k + (1 + (n - k - 1)) := by omega
  have h0 : (List.range k).find? p = none := List.find?_eq_none.2 fun x hx => by simp [h x (List.mem_range.1 hx)]
  unfold least
  rw [e, List.range_add, List.find?_append, h0, List.range_add, List.map_append, List.find?_append]
  simp [hp]
theorem least_cases (p : Nat → Bool) (n : Nat) : (∃ k, k < n ∧ p k = true ∧ (∀ j, j < k → p j = false) ∧ least p n = some k) ∨ ((∀ j, j < n → p j = false) ∧ least p n = none) := by
  induction n with
  | zero => exact .inr ⟨fun j hj => absurd hj (Nat.not_lt_zero _), rfl⟩
  | succ n ih =>
    rcases ih with ⟨k, hk, hp, hj, _⟩ | ⟨hj, _⟩
    · exact .inl ⟨k, by omega, hp, hj, least_some (by omega) hp hj⟩
    · cases hn : p n
      · have : ∀ j, j < n + 1 → p j = false := fun j h => by
          by_cases e : j = n
          · rw [e]; exact hn
          · exact hj j (by omega)
        exact .inr ⟨this, least_none this⟩
      · exact .inl ⟨n, by omega, hn, hj, least_some (by omega) hn hj⟩
theorem least_congr {p q : Nat → Bool} {n : Nat} (h : ∀ j, j < n → p j = q j) : least p n = least q n := by
  rcases least_cases q n with ⟨k, hk, hp, hj, e⟩ | ⟨hj, e⟩
  · rw [e]; exact least_some hk (by rw [h k hk]; exact hp) (fun j hj' => by rw [h j (by omega)]; exact hj j hj')
  · rw [e]; exact least_none (fun j hj' => by rw [h j hj']; exact hj j hj')

/-! square roots -/
def isRoot (a : Int) (s : Nat) : Bool := decide ((s : Int) * (s : Int) % 55441 = a)
theorem root_turn (a : Int) (s : Nat) (h : s ≤ 55441) : isRoot a (55441 - s) = isRoot a s := by
  unfold isRoot
  congr 1
  have : (((55441 - s : Nat) : Int)) = 55441 - (s : Int) := by omega
  rw [this]
  have e : (55441 - (s : Int)) * (55441 - (s : Int)) = s * s + 55441 * (55441 - 2 * s) := by
    simp only [Int.sub_mul, Int.mul_sub]; omega
  rw [e, Int.add_mul_emod_self_left]
theorem root_half (a : Int) : least (isRoot a) 55441 = least (isRoot a) 27721 := by
  rcases least_cases (isRoot a) 55441 with ⟨k, hk, hp, hj, e⟩ | ⟨hj, e⟩
  · rw [e]
    by_cases h : k < 27721
    · exact (least_some h hp hj).symm
    · have h1 := hj (55441 - k) (by omega)
      rw [root_turn a k (by omega), hp] at h1
      exact absurd h1 (by simp)
  · rw [e]; exact (least_none (fun j h => hj j (by omega))).symm

/-! logarithms -/
def logN (a : Nat) : Nat := (least (fun k => decide (pw 38 k = a)) 55440).getD 0
theorem logN_spec (a : Nat) (h1 : 1 ≤ a) (h2 : a < 55441) : logN a < 55440 ∧ pw 38 (logN a) = a ∧ ∀ j, j < logN a → pw 38 j ≠ a := by
  obtain ⟨k, hk, hka⟩ := exists_log a h1 h2
  rcases least_cases (fun k => decide (pw 38 k = a)) 55440 with ⟨l, hl, hp, hj, e⟩ | ⟨hj, e⟩
  · have : logN a = l := by unfold logN; rw [e]; rfl
    rw [this]
    exact ⟨hl, of_decide_eq_true hp, fun j hj' => of_decide_eq_false (hj j hj')⟩
  · exact absurd hka (of_decide_eq_false (hj k hk))

/-! short fractions -/
/-- the remainder of a times q around 0 -/
def cres (a : Int) (q : Int) : Int := if 27720 < a * q % 55441 then a * q % 55441 - 55441 else a * q % 55441
theorem cres_bd (a q : Int) : -27720 ≤ cres a q ∧ cres a q ≤ 27720 := by unfold cres; split <;> omega
theorem cres_mod (a q : Int) : cres a q % 55441 = a * q % 55441 := by unfold cres; split <;> omega
theorem cres_uniq (a q p : Int) (h1 : -27720 ≤ p) (h2 : p ≤ 27720) (h : p % 55441 = a * q % 55441) : cres a q = p := by
  unfold cres; split <;> omega
/-- is the i-th fraction short -/
def okS (a : Int) (i : Nat) : Bool := decide (-166 ≤ cres a (i + 1)) && decide (cres a (i + 1) ≤ 166)
def okQ (a : Int) (i : Nat) : Bool := okS a i && decide (Int.gcd (cres a (i + 1)) (i + 1) = 1)
/-- an integer that is no multiple of the prime can be cancelled -/
theorem icancel (d x : Int) (h1 : 0 < d) (h2 : d < 55441) (h : d * x % 55441 = 0) : x % 55441 = 0 := by
  have hx : (d.toNat * (x % 55441).toNat) % 55441 = d.toNat * 0 % 55441 := by
    have e1 : d * (x % 55441) % 55441 = 0 := by rw [Int.mul_emod, Int.emod_emod_of_dvd _ (Int.dvd_refl _), ← Int.mul_emod]; exact h
    obtain ⟨m, rfl⟩ := Int.eq_ofNat_of_zero_le (show 0 ≤ d by omega)
    obtain ⟨n, hn⟩ := Int.eq_ofNat_of_zero_le (show 0 ≤ x % 55441 by omega)
    rw [hn] at e1 ⊢
    simp only [Int.toNat_natCast, Nat.mul_zero, Nat.zero_mod]
    omega
  have := cancel d.toNat (x % 55441).toNat 0 (by omega) (by omega) hx
  omega
theorem first_short (a : Int) (i : Nat) (hi : i < 166) (h : okS a i = true) (hj : ∀ j, j < i → okS a j = false) : okQ a i = true := by
  have hb : -166 ≤ cres a (i + 1) ∧ cres a (i + 1) ≤ 166 := by simpa [okS] using h
  unfold okQ
  rw [h, Bool.true_and, decide_eq_true_iff]
  refine Decidable.byContradiction fun hg => ?_
  have g1 := Int.gcd_dvd_left (a := cres a (i + 1)) (b := i + 1)
  have g2 := Int.gcd_dvd_right (a := cres a (i + 1)) (b := i + 1)
  have gpos : 0 < Int.gcd (cres a (i + 1)) (i + 1) := Nat.pos_of_ne_zero fun e => by
    rw [Int.gcd_eq_zero_iff] at e; omega
  generalize Int.gcd (cres a (i + 1)) (i + 1) = d at *
  obtain ⟨p', hp'⟩ := g1
  obtain ⟨q', hq'⟩ := g2
  have hd : 2 ≤ (d : Int) := by omega
  have hq1 : 1 ≤ q' := Decidable.byContradiction fun hn => by
    have := Int.mul_nonneg (show (0 : Int) ≤ d by omega) (show 0 ≤ -q' by omega)
    rw [Int.mul_neg] at this; omega
  have hq2 : q' * 2 ≤ i + 1 := by
    have := Int.mul_le_mul_of_nonneg_right hd (show 0 ≤ q' by omega)
    omega
  have hdi : (d : Int) ≤ i + 1 := by
    have := Int.mul_le_mul_of_nonneg_left hq1 (show (0 : Int) ≤ d by omega)
    omega
  have hmul : ∀ y : Int, 0 ≤ y → 2 * y ≤ d * y := fun y hy => Int.mul_le_mul_of_nonneg_right hd hy
  have hp1 : -166 ≤ p' ∧ p' ≤ 166 := by
    rcases Int.le_total 0 p' with hp | hp
    · have := hmul p' hp; omega
    · have := hmul (-p') (by omega); simp only [Int.mul_neg] at this; omega
  have key : p' % 55441 = a * q' % 55441 := by
    have h1 := cres_mod a (i + 1)
    rw [hp', hq'] at h1
    have h2 : d * (a * q' - p') % 55441 = 0 := by
      rw [Int.mul_sub, show (d : Int) * (a * q') = a * (d * q') from by rw [← Int.mul_assoc, ← Int.mul_assoc, Int.mul_comm a]]
      omega
    have h3 := icancel d _ (by omega) (by omega) h2
    omega
  have hc := cres_uniq a q' p' (by omega) (by omega) key
  have hjj := hj (q'.toNat - 1) (by omega)
  have e : (((q'.toNat - 1 : Nat) : Int) + 1) = q' := by omega
  simp [okS, e, hc] at hjj
  omega
theorem short_same (a : Int) : least (okQ a) 166 = least (okS a) 166 := by
  rcases least_cases (okS a) 166 with ⟨k, hk, hp, hj, e⟩ | ⟨hj, e⟩
  · rw [e]
    exact least_some hk (first_short a k hk hp hj) (fun j h => by simp [okQ, hj j h])
  · rw [e]; exact least_none (fun j h => by simp [okQ, hj j h])
def shortOf (a : Int) (o : Option Nat) : Int × Int := match o with | some i => (cres a (i + 1), i + 1) | none => (0, 0)
/-- the short fraction of a number, (0, 0) if there is none -/
def shortF (a : Int) : Int × Int := shortOf a (least (okS a) 166)
theorem shortF_Q (a : Int) : shortF a = shortOf a (least (okQ a) 166) := by unfold shortF; rw [short_same]
def rootF (a : Int) : Int := match least (isRoot a) 27721 with | some i => (i : Int) | none => -1
theorem rootF_full (a : Int) : rootF a = match least (isRoot a) 55441 with | some i => (i : Int) | none => -1 := by unfold rootF; rw [root_half]
theorem shortF_cases (a : Int) : shortF a = (0, 0) ∨ ∃ q : Int, 1 ≤ q ∧ q ≤ 166 ∧ shortF a = (cres a q, q) ∧ -166 ≤ cres a q ∧ cres a q ≤ 166 ∧ Int.gcd (cres a q) q = 1 := by
  rw [shortF_Q]
  rcases least_cases (okQ a) 166 with ⟨k, hk, hp, _, e⟩ | ⟨_, e⟩
  · right
    rw [e]
    simp only [okQ, okS, Bool.and_eq_true, decide_eq_true_iff] at hp
    exact ⟨k + 1, by omega, by omega, rfl, hp.1.1, hp.1.2, hp.2⟩
  · left; rw [e]; rfl
theorem rootF_bd (a : Int) : -1 ≤ rootF a ∧ rootF a ≤ 27720 := by
  unfold rootF
  rcases least_cases (isRoot a) 27721 with ⟨k, hk, _, _, e⟩ | ⟨_, e⟩
  · rw [e]; simp only; omega
  · rw [e]; simp
attribute [irreducible] cres okS okQ isRoot shortF rootF logN
end Fus

/- Walks of the prime field's functions, third part: orders, the primitive number, roots of unity, square roots, short fractions, logarithms. -/
namespace Go.Proofs.Ytmbcncmmgfnlmaa
open Go.RowKit

/-! orders -/
def ordP : List Int := [2, 3, 5, 7, 11]
def ordK (a : Nat) : Nat → Nat
  | 0 => 55440
  | k + 1 => Fus.strip a ((ordP.getD k 1).toNat) 16 (ordK a k)
theorem ordK_5 (a : Nat) : ordK a 5 = Fus.ordN a := rfl
theorem ordK_bd (a k : Nat) : 1 ≤ ordK a k ∧ ordK a k ≤ 55440 := by
  induction k with
  | zero => exact ⟨by show 1 ≤ 55440; omega, by show 55440 ≤ 55440; omega⟩
  | succ k ih =>
    unfold ordK
    constructor
    · refine Fus.strip_pos _ _ _ _ ?_ ih.1
      match k with
      | 0 => decide
      | 1 => decide
      | 2 => decide
      | 3 => decide
      | 4 => decide
      | k + 5 => simp [ordP]
    · exact Nat.le_trans (Fus.strip_le _ _ _ _) ih.2
/-- what the inner loop keeps: what is left to strike comes to the same -/
def stripRel (a : Nat) (p : Int) (o : Int) (S : Nat) : Prop := 1 ≤ o ∧ o ≤ 55440 ∧ ∃ f, o.toNat < 2 ^ f ∧ Fus.strip a p.toNat f o.toNat = S
theorem stripRel_start (a k : Nat) (p : Int) (h : ordP[k]? = some p) : stripRel a p (ordK a k : Nat) (ordK a (k + 1)) := by
  have := ordK_bd a k
  refine ⟨by omega, by omega, 16, by simp only [Int.toNat_natCast]; omega, ?_⟩
  simp only [Int.toNat_natCast, ordK, List.getD_eq_getElem?_getD, h, Option.getD_some]
theorem stripRel_end {a : Nat} {p o : Int} {S : Nat} (h : stripRel a p o S) (hn : ¬ (o.toNat % p.toNat = 0 ∧ Fus.pw a (o.toNat / p.toNat) = 1)) : (S : Int) = o := by
  obtain ⟨h1, h2, f, _, hf⟩ := h
  rw [Fus.strip_stop _ _ _ _ hn] at hf
  omega
theorem stripRel_go {a : Nat} {p o : Int} {S : Nat} (hp : 2 ≤ p) (h : stripRel a p o S) (h1 : o % p = 0) (h2 : Fus.pw a (o.toNat / p.toNat) = 1) : stripRel a p (o / p) S := by
  obtain ⟨ho1, ho2, f, hlt, hf⟩ := h
  obtain ⟨m, rfl⟩ := Int.eq_ofNat_of_zero_le (show 0 ≤ o by omega)
  obtain ⟨q, rfl⟩ := Int.eq_ofNat_of_zero_le (show 0 ≤ p by omega)
  simp only [Int.toNat_natCast] at *
  have hm : m % q = 0 := by exact_mod_cast h1
  have hq : (m : Int) / (q : Int) = ((m / q : Nat) : Int) := by simp
  have hle : m / q * 2 ≤ m := Nat.le_trans (Nat.mul_le_mul_left _ (by omega : 2 ≤ q)) (Nat.div_mul_le_self m q)
  have hpos : 1 ≤ m / q := (Nat.le_div_iff_mul_le (by omega)).2 (by rw [Nat.one_mul]; exact Nat.le_of_dvd (by omega) (Nat.dvd_of_mod_eq_zero hm))
  rw [hq]
  refine ⟨by omega, by omega, f - 1, ?_, ?_⟩
  · simp only [Int.toNat_natCast]
    cases f with
    | zero => simp at hlt; omega
    | succ f => simp only [Nat.add_sub_cancel]; rw [Nat.pow_succ] at hlt; omega
  · simp only [Int.toNat_natCast]
    cases f with
    | zero => simp at hlt; omega
    | succ f => rw [Fus.strip_go _ _ _ _ hm h2] at hf; exact hf
theorem ordP_bd {k : Nat} {p : Int} (h : ordP[k]? = some p) : 2 ≤ p ∧ p ≤ 11 ∧ k < 5 := by
  match k, h with
  | 0, h => simp [ordP] at h; omega
  | 1, h => simp [ordP] at h; omega
  | 2, h => simp [ordP] at h; omega
  | 3, h => simp [ordP] at h; omega
  | 4, h => simp [ordP] at h; omega
  | k + 5, h => simp [ordP] at h
theorem ordP_cell (w : World) (t : TypeId) : ∀ k p, ordP[k]? = some p → (w.alloc (.cells #[.int .i64 2, .int .i64 3, .int .i64 5, .int .i64 7, .int .i64 11] t)).cell? ⟨w.heap.size, k, none⟩ = some (.int .i64 p) := by
  intro k p h
  match k, h with
  | 0, h => simp [ordP] at h; subst h; simp
  | 1, h => simp [ordP] at h; subst h; simp
  | 2, h => simp [ordP] at h; subst h; simp
  | 3, h => simp [ordP] at h; subst h; simp
  | 4, h => simp [ordP] at h; subst h; simp
  | k + 5, h => simp [ordP] at h
/-- the order of a number -/
def iord (a : Int) : Int := (Fus.ordN a.toNat : Nat)
theorem iord_bd (a : Int) : 1 ≤ iord a ∧ iord a ≤ 55440 := by
  have := Fus.ordN_bd a.toNat
  unfold iord; omega
theorem ipw_one {a k : Int} (h : ipw a k = 1) : Fus.pw a.toNat k.toNat = 1 := by rw [ipw_eq] at h; omega
theorem ipw_not_one {a k : Int} (h : ipw a k ≠ 1) : Fus.pw a.toNat k.toNat ≠ 1 := by rw [ipw_eq] at h; omega
theorem toNat_div (o p : Int) (ho : 0 ≤ o) (hp : 0 ≤ p) : (o / p).toNat = o.toNat / p.toNat := by
  obtain ⟨m, rfl⟩ := Int.eq_ofNat_of_zero_le ho
  obtain ⟨q, rfl⟩ := Int.eq_ofNat_of_zero_le hp
  simp only [Int.toNat_natCast]
  exact_mod_cast rfl
theorem toNat_mod (o p : Int) (ho : 0 ≤ o) (hp : 0 ≤ p) : (o % p).toNat = o.toNat % p.toNat := by
  obtain ⟨m, rfl⟩ := Int.eq_ofNat_of_zero_le ho
  obtain ⟨q, rfl⟩ := Int.eq_ofNat_of_zero_le hp
  simp only [Int.toNat_natCast]
  exact_mod_cast rfl

set_option maxHeartbeats 1000000 in
theorem c_l01Order (a : Int) (w : World) (ha1 : 0 ≤ a) (ha2 : a < 55441) :
    Calls Try.prog 132 #[.int .i64 a] w fun e w' => e = .returned (.int .i64 (iord a)) ∧ Below w.heap.size w w' := by
  have HC := Lib.hid (ordP_cell w 2)
  have HB := below_alloc w (.cells #[.int .i64 2, .int .i64 3, .int .i64 5, .int .i64 7, .int .i64 11] 2)
  go_enter Try.func132, Try.ntmps132
  go_wp2_with fail
  go_loop [3, 5] (fun o i => ∃ k : Nat, k ≤ 5 ∧ i = .int .i64 k ∧ o = .int .i64 (ordK a.toNat k : Nat)) (fun _ i => 5 - (intOf i).toNat)
  case atStart => exact ⟨0, by omega, rfl, rfl⟩
  case round =>
    obtain ⟨k, hk, rfl, rfl⟩ := hrel
    by_cases hlt : k < 5
    · obtain ⟨p, hp⟩ : ∃ p, ordP[k]? = some p := ⟨ordP[k], by simp [ordP]⟩
      have hcell := HC.out k p hp
      have hb := ordP_bd hp
      obtain ⟨hp2, hp11, _⟩ := hb
      have HP := Lib.hid hp
      have HS := Lib.hid (stripRel_start a.toNat k p hp)
      clear hp
      have hob := ordK_bd a.toNat k
      obtain ⟨hob1, hob2⟩ := hob
      go_wp2_with fail
      go_loop [3] (fun o => ∃ o' : Int, o = .int .i64 o' ∧ stripRel a.toNat p o' (ordK a.toNat (k + 1))) (fun o => (intOf o).toNat)
      case atStart => exact ⟨_, rfl, HS.out⟩
      case round =>
        obtain ⟨o, rfl, hr⟩ := hrel
        have ho1 := hr.1
        have ho2 := hr.2.1
        have HR := Lib.hid hr
        clear hr
        have hd1 : 0 ≤ o / p := Int.ediv_nonneg (by omega) (by omega)
        have hd2 : o / p ≤ o := Int.ediv_le_self _ (by omega)
        by_cases hm : o % p = 0
        · have hmB : (o % p == 0) = true := by simp [hm]
          have HM := Lib.hid hm
          clear hm
          by_cases hw : ipw a (o / p) = 1
          · have hwB : (ipw a (o / p) == 1) = true := by simp [hw]
            have HW := Lib.hid hw
            clear hw
            go_wp2_with (go_at_call 83; refine (c_l01Pow a (o / p) _ ha1 ha2 hd1 (by omega)).mono ?_; rintro e w' ⟨rfl, rfl⟩)
            go_round
            case rel => exact ⟨_, rfl, stripRel_go hp2 HR.out HM.out (by rw [← toNat_div _ _ (by omega) (by omega)]; exact ipw_one HW.out)⟩
            case measure =>
              have : o / p < o := Int.ediv_lt_of_lt_mul (by omega) (by have := Int.mul_le_mul_of_nonneg_left hp2 (show 0 ≤ o by omega); omega)
              simp [intOf]; omega
          · have hwB : (ipw a (o / p) == 1) = false := by simp [hw]
            have HE : Hid ((ordK a.toNat (k + 1) : Nat) = o) := Lib.hid (stripRel_end HR.out (fun h => ipw_not_one hw (by rw [toNat_div _ _ (by omega) (by omega)]; exact h.2)))
            clear hw
            go_wp2_with (go_at_call 83; refine (c_l01Pow a (o / p) _ ha1 ha2 hd1 (by omega)).mono ?_; rintro e w' ⟨rfl, rfl⟩)
            go_round
            case rel => exact ⟨k + 1, by omega, by go_num, by rw [HE.out]⟩
            case measure => simp [intOf]; omega
        · have hmB : (o % p == 0) = false := by simp [hm]
          have HE : Hid ((ordK a.toNat (k + 1) : Nat) = o) := Lib.hid (stripRel_end HR.out (fun h => hm (by have := toNat_mod o p (by omega) (by omega); have hnn : 0 ≤ o % p := Int.emod_nonneg _ (by omega); omega)))
          clear hm
          go_wp2_with fail
          go_round
          case rel => exact ⟨k + 1, by omega, by go_num, by rw [HE.out]⟩
          case measure => simp [intOf]; omega
    · have hk5 : k = 5 := by omega
      subst hk5
      go_wp2_with fail
      go_ret
      exact ⟨rfl, HB⟩
theorem iord_eq (a : Int) : iord a = (Fus.ordN a.toNat : Nat) := rfl
attribute [irreducible] iord
end Go.Proofs.Ytmbcncmmgfnlmaa

/- Walks of the prime field's functions, fourth part: the primitive number, roots of unity, square roots, short fractions, logarithms. -/
namespace Go.Proofs.Ytmbcncmmgfnlmaa
open Go.RowKit

theorem iord_small (r : Int) (h1 : 1 ≤ r) (h2 : r < 38) : iord r ≠ 55440 := by
  have := Fus.ord_small r.toNat (by omega) (by omega)
  rw [iord_eq]; omega
theorem iord_38 : iord 38 = 55440 := by
  have := Fus.ord_38
  rw [iord_eq, show (38 : Int).toNat = 38 from rfl, this]; rfl
theorem c_l01Primitive (w : World) :
    Calls Try.prog 130 #[] w fun e w' => e = .returned (.int .i64 38) ∧ Below w.heap.size w w' := by
  go_enter Try.func130, Try.ntmps130
  go_wp2_with fail
  go_loopw [1] (fun r wr => ∃ k : Int, 1 ≤ k ∧ k ≤ 38 ∧ r = .int .i64 k ∧ Below w.heap.size w wr) (fun r _ => (38 - intOf r).toNat)
  case atStart => exact ⟨1, by omega, by omega, rfl, Below.refl _ _⟩
  case round =>
    obtain ⟨k, hk1, hk2, rfl, hbel⟩ := hrel
    by_cases hlt : k < 38
    · have hne : (iord k != 55440) = true := by rw [bne_iff_ne]; exact iord_small k hk1 hlt
      go_wp2_with (go_at_call 132; refine (c_l01Order k _ (by omega) (by omega)).mono ?_; rintro e w' ⟨rfl, hb⟩)
      go_roundw
      case rel => exact ⟨k + 1, by omega, by omega, rfl, hbel.trans (hb.mono hbel.size)⟩
      case measure => simp [intOf]; omega
    · obtain rfl : k = 38 := by omega
      have hne : (iord 38 != 55440) = false := by rw [iord_38]; rfl
      go_wp2_with (go_at_call 132; refine (c_l01Order 38 _ (by omega) (by omega)).mono ?_; rintro e w' ⟨rfl, hb⟩)
      go_ret
      exact ⟨rfl, hbel.trans (hb.mono hbel.size)⟩

/-! roots of unity -/
def isOrd (n : Int) : Bool := decide (1 ≤ n) && decide ((55440 : Int).tmod n = 0)
theorem isOrd_true {n : Int} (h : isOrd n = true) : 1 ≤ n ∧ (55440 : Int) % n = 0 ∧ n ≤ 55440 := by
  simp only [isOrd, Bool.and_eq_true, decide_eq_true_iff] at h
  have e : (55440 : Int) % n = 0 := by rw [← Int.tmod_eq_emod_of_nonneg (by omega)]; exact h.2
  exact ⟨h.1, e, Int.le_of_dvd (by omega) (Int.dvd_of_emod_eq_zero e)⟩
def iroot (n : Int) : Int := ipw 38 (55440 / n)
def rootN (n : Int) : Int × Int := if n < 1 then (0, 2) else if isOrd n = true then (iroot n, 0) else (0, 5)



theorem div_ord (n : Int) (h1 : 1 ≤ n) (h2 : n ≤ 55440) : 0 ≤ 55440 / n ∧ 55440 / n ≤ 55440 :=
  ⟨Int.ediv_nonneg (by omega) (by omega), Int.ediv_le_self _ (by omega)⟩
theorem c_l01Unity (n : Int) (w : World) (h1 : 1 ≤ n) (h2 : n ≤ 55440) :
    Calls Try.prog 128 #[.int .i64 n] w fun e w' => e = .returned (.int .i64 (iroot n)) ∧ Below w.heap.size w w' := by
  have hd := div_ord n h1 h2
  obtain ⟨hd1, hd2⟩ := hd
  have hn : ¬ n = 0 := by omega
  have hq : IntKind.i64.wrap (Int.tdiv 55440 n) = 55440 / n := by
    rw [Int.tdiv_eq_ediv_of_nonneg (by omega)]; exact IntWalk.i64_in _ (by omega)
  go_enter Try.func128, Try.ntmps128
  go_wp2_with fail
  go_region_with (first | (go_at_call 130; refine (c_l01Primitive _).mono ?_; rintro e w' ⟨rfl, hb⟩) | (go_at_call 83; refine (c_l01Pow 38 (55440 / n) _ (by omega) (by omega) hd1 (by omega)).mono ?_; rintro e w' ⟨rfl, rfl⟩))
  all_goals (clear hq; go_wp2_with fail; go_ret; exact ⟨rfl, below_drew hb⟩)



theorem isRoot_eq (a : Int) (s : Nat) : Fus.isRoot a s = decide ((s : Int) * (s : Int) % 55441 = a) := by unfold Fus.isRoot; rfl
theorem root_found (a : Int) (k : Int) (h0 : 0 ≤ k) (hk : k < 55441) (h : Fus.isRoot a k.toNat = true) (hj : ∀ j : Nat, (j : Int) < k → Fus.isRoot a j = false) : k = Fus.rootF a := by
  rw [Fus.rootF_full, Fus.least_some (k := k.toNat) (by omega) h (fun j h => hj j (by omega))]
  exact (Int.toNat_of_nonneg h0).symm
theorem root_none (a : Int) (hj : ∀ j : Nat, (j : Int) < 55441 → Fus.isRoot a j = false) : (-1 : Int) = Fus.rootF a := by
  rw [Fus.rootF_full, Fus.least_none (fun j h => hj j (by omega))]
theorem root_foundS (a : Int) (k : Int) (h0 : 0 ≤ k) (hk : k < 27721) (h : Fus.isRoot a k.toNat = true) (hj : ∀ j : Nat, (j : Int) < k → Fus.isRoot a j = false) : k = Fus.rootF a := by
  unfold Fus.rootF; rw [Fus.least_some (k := k.toNat) (by omega) h (fun j h => hj j (by omega))]
  exact (Int.toNat_of_nonneg h0).symm
theorem root_noneS (a : Int) (hj : ∀ j : Nat, (j : Int) < 27721 → Fus.isRoot a j = false) : (-1 : Int) = Fus.rootF a := by
  unfold Fus.rootF; rw [Fus.least_none (fun j h => hj j (by omega))]
/-- the square root with its code -/
def sqrtN (a : Int) : Int × Int := if isNum a = true then (if Fus.rootF a < 0 then (0, 4) else (Fus.rootF a, 0)) else (0, 2)




end Go.Proofs.Ytmbcncmmgfnlmaa

/- Walks of the prime field's functions, fifth part: short fractions, greatest common divisors, logarithms, orders. -/
namespace Go.Proofs.Ytmbcncmmgfnlmaa
open Go.RowKit


theorem okQ_eq (a : Int) (i : Nat) : Fus.okQ a i = (inR (-166) 166 (Fus.cres a (i + 1)) && decide (Int.gcd (Fus.cres a (i + 1)) (i + 1) = 1)) := by
  unfold Fus.okQ Fus.okS inR; rfl
theorem okS_eq (a : Int) (i : Nat) : Fus.okS a i = inR (-166) 166 (Fus.cres a (i + 1)) := by unfold Fus.okS inR; rfl
theorem cres_hi {a q : Int} (h : 27720 < a * q % 55441) : Fus.cres a q = a * q % 55441 - 55441 := by unfold Fus.cres; rw [if_pos h]
theorem cres_lo {a q : Int} (h : ¬ 27720 < a * q % 55441) : Fus.cres a q = a * q % 55441 := by unfold Fus.cres; rw [if_neg h]
theorem short_found {a q : Int} (h1 : 1 ≤ q) (h2 : q ≤ 166) (hj : ∀ j : Nat, (j : Int) + 1 < q → Fus.okQ a j = false) (h : Fus.okQ a (q - 1).toNat = true) : Fus.shortF a = (Fus.cres a q, q) := by
  rw [Fus.shortF_Q, Fus.least_some (k := (q - 1).toNat) (by omega) h (fun j hj' => hj j (by omega))]
  unfold Fus.shortOf
  simp only [show (((q - 1).toNat : Nat) : Int) + 1 = q from by omega]
theorem short_none {a : Int} (hj : ∀ j : Nat, (j : Int) + 1 < 167 → Fus.okQ a j = false) : Fus.shortF a = (0, 0) := by
  rw [Fus.shortF_Q, Fus.least_none (fun j hj' => hj j (by omega))]; rfl
theorem short_foundS {a q : Int} (h1 : 1 ≤ q) (h2 : q ≤ 166) (hj : ∀ j : Nat, (j : Int) + 1 < q → Fus.okS a j = false) (h : Fus.okS a (q - 1).toNat = true) : Fus.shortF a = (Fus.cres a q, q) := by
  unfold Fus.shortF
  rw [Fus.least_some (k := (q - 1).toNat) (by omega) h (fun j hj' => hj j (by omega))]
  unfold Fus.shortOf
  simp only [show (((q - 1).toNat : Nat) : Int) + 1 = q from by omega]
theorem short_noneS {a : Int} (hj : ∀ j : Nat, (j : Int) + 1 < 167 → Fus.okS a j = false) : Fus.shortF a = (0, 0) := by
  unfold Fus.shortF; rw [Fus.least_none (fun j hj' => hj j (by omega))]; rfl
theorem prod_bd2 {x y : Int} (h1 : 0 ≤ x) (h2 : x < 55441) (h3 : 0 ≤ y) (h4 : y ≤ 167) : 0 ≤ x * y ∧ x * y ≤ 9258480 :=
  ⟨Int.mul_nonneg h1 h3, Int.le_trans (Int.mul_le_mul (show x ≤ 55440 by omega) h4 h3 (by omega)) (by omega)⟩
theorem pred_cast {q : Int} (h : 1 ≤ q) : (((q - 1).toNat : Nat) : Int) + 1 = q := by omega


/-- the short fraction with its code -/
def shortN (a : Int) : Int × Int × Int :=
  if isNum a = true then (if (Fus.shortF a).2 = 0 then (0, 0, 4) else ((Fus.shortF a).1, (Fus.shortF a).2, 0)) else (0, 0, 2)
def three (r : Int × Int × Int) : Value := .tuple #[.int .i64 r.1, .int .i64 r.2.1, .int .i64 r.2.2]
theorem ret_three {a b c : Int} {r : Int × Int × Int} (h : r = (a, b, c)) : Ending.returned (.tuple #[.int .i64 a, .int .i64 b, .int .i64 c]) = .returned (.tuple #[.int .i64 r.1, .int .i64 r.2.1, .int .i64 r.2.2]) := by rw [h]


end Go.Proofs.Ytmbcncmmgfnlmaa
