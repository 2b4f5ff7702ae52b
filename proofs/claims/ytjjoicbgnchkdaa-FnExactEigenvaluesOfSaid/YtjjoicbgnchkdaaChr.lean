/- Plain algebra over the field with 55441 elements: characteristic polynomials and their derivatives. No program in sight. -/
import Derived.Test.YtjjoicbgnchkdaaPol
namespace Fus
/-! characteristic polynomials -/
/-- z times the unit table less A -/
def xz (A : Mx) (z : F) : Mx := fun i j => (if i = j then z else 0) - A i j
def chi (n : Nat) (A : Mx) (z : F) : F := D n (xz A z)
def nf : Nat → F
  | 0 => 0
  | k + 1 => nf k + 1
theorem nf_val : ∀ k, k < 55441 → (nf k).val = k := by
  intro k
  induction k with
  | zero => intro _; rfl
  | succ k ih => intro h; show (nf k + 1 : F).val = _; rw [Fin.val_add, ih (by omega)]; show (k + 1) % 55441 = k + 1; omega
theorem nf_ne {k : Nat} (h1 : 1 ≤ k) (h2 : k < 55441) : nf k ≠ 0 := fun e => by
  have := nf_val k h2
  rw [e] at this
  have h0 : (0 : F).val = 0 := rfl
  omega
def trc (n : Nat) (A : Mx) : F := sm n fun i => A i i

/-! the derivative of the characteristic polynomial is the trace of the cofactors -/
def dfp (z : F) : Nat → F
  | 0 => 0
  | k + 1 => dfp z k * z + fp z k
theorem dfp_eq (z : F) (k : Nat) : dfp z (k + 1) = nf (k + 1) * fp z k := by
  induction k with
  | zero => simp only [dfp, fp, nf]; grind
  | succ k ih =>
    show dfp z (k + 1) * z + fp z (k + 1) = (nf (k + 1) + 1) * (fp z k * z)
    rw [ih]; show _ + fp z k * z = _; grind
theorem fp_add (z : F) (k : Nat) : ∃ h : F → F, IsP (k + 1) h ∧ ∀ y, fp (z + y) k = fp z k + y * dfp z k + y * (y * h y) := by
  induction k with
  | zero => exact ⟨fun _ => 0, IsP.zero _, fun y => by simp only [fp, dfp]; grind⟩
  | succ k ih =>
    obtain ⟨h, hp, he⟩ := ih
    refine ⟨fun y => (dfp z k + z * h y) + y * h y, (((IsP.const (dfp z k)).mono (by omega)).add ((hp.smul z).mono (by omega))).add hp.shift, fun y => ?_⟩
    show fp (z + y) k * (z + y) = fp z k * z + y * (dfp z k * z + fp z k) + _
    rw [he]; grind
theorem ev_add (m : Nat) (c : Nat → F) (z : F) : ∃ h : F → F, IsP (m + 1) h ∧ ∀ y, ev m c (z + y) = ev m c z + y * (sm m fun i => c i * dfp z i) + y * (y * h y) := by
  induction m with
  | zero => exact ⟨fun _ => 0, IsP.zero _, fun y => by simp only [ev, sm]; grind⟩
  | succ m ih =>
    obtain ⟨h, hp, he⟩ := ih
    obtain ⟨g, gp, ge⟩ := fp_add z m
    refine ⟨fun y => h y + c m * g y, (hp.mono (by omega)).add ((gp.smul _).mono (by omega)), fun y => ?_⟩
    show ev m c (z + y) + c m * fp (z + y) m = (ev m c z + c m * fp z m) + y * (_ + c m * dfp z m) + _
    rw [he, ge]; grind
def unitRow (k : Nat) : Nat → F := fun l => if l = k then 1 else 0
/-- the rows before k are moved from z to z + y -/
def mix (A : Mx) (z y : F) (k : Nat) : Mx := fun i j => if i < k then xz A (z + y) i j else xz A z i j
theorem mix_step (A : Mx) (z y : F) (k : Nat) : mix A z y (k + 1) = setR (mix A z y k) k fun j => 1 * xz A z k j + y * unitRow k j := by
  funext i j
  simp only [mix, setR]
  by_cases e : i = k
  · subst e
    rw [if_pos (by omega), if_pos rfl]
    simp only [xz, unitRow]
    by_cases h : i = j
    · rw [if_pos h, if_pos h, if_pos h.symm]; grind
    · rw [if_neg h, if_neg h, if_neg (fun e => h e.symm)]; grind
  · rw [if_neg e]
    by_cases h : i < k
    · rw [if_pos h, if_pos (by omega)]
    · rw [if_neg h, if_neg (by omega)]
theorem mix_sum {n : Nat} (A : Mx) (z y : F) : ∀ m, m ≤ n → D n (mix A z y m) = chi n A z + y * sm m fun k => D n (setR (mix A z y k) k (unitRow k)) := by
  intro m
  induction m with
  | zero => intro _; show chi n A z = _ + y * 0; grind
  | succ m ih =>
    intro hm
    rw [mix_step, D_lin _ (show m < n from hm)]
    have e : setR (mix A z y m) m (xz A z m) = mix A z y m := by
      funext i j; simp only [setR, mix]; split
      · rename_i h; rw [h, if_neg (by omega)]
      · rfl
    rw [e, ih (by omega), sm_succ]; grind
theorem jacobi {n m : Nat} {A : Mx} {c : Nat → F} (hn : n ≤ 1000) (hm : m ≤ 2000) (hc : ∀ z, chi n A z = ev m c z) (z : F) :
    (sm n fun k => cof n (xz A z) k k) = sm m fun i => c i * dfp z i := by
  obtain ⟨h, hp, he⟩ := ev_add m c z
  have hX : ∀ (i j : Nat), IsP 2 fun y => xz A (z + y) i j := fun i j => by
    by_cases e : i = j
    · exact ((IsP.id.add ((IsP.const (z - A i j)).mono (by omega)))).congr fun y => by simp only [xz, if_pos e]; grind
    · exact ((IsP.const (0 - A i j)).mono (by omega)).congr fun y => by simp only [xz, if_neg e]
  have hQ : IsP (2 * n + 1) fun y => sm n fun k => D n (setR (mix A z y k) k (unitRow k)) := IsP.sum fun k _ => IsP.D fun i j _ _ => by
    by_cases e : i = k
    · exact ((IsP.const (unitRow k j)).mono (by omega)).congr fun y => by simp only [setR, if_pos e]
    · by_cases h : i < k
      · exact (hX i j).congr fun y => by simp only [setR, if_neg e, mix, if_pos h]
      · exact ((IsP.const (xz A z i j)).mono (by omega)).congr fun y => by simp only [setR, if_neg e, mix, if_neg h]
  have hg : IsP (2 * n + m + 2) fun y => ((sm n fun k => D n (setR (mix A z y k) k (unitRow k))) + -1 * (sm m fun i => c i * dfp z i)) + -1 * (y * h y) :=
    ((hQ.mono (by omega)).add ((IsP.const _).mono (by omega))).add ((hp.shift.smul (-1)).mono (by omega))
  have hz := hg.cancel (by omega) fun y => by
    have h1 := mix_sum (n := n) A z y n (Nat.le_refl _)
    have h2 : D n (mix A z y n) = chi n A (z + y) := D_congr fun i j hi _ => by simp only [mix, if_pos hi]
    rw [h2, hc, hc, he] at h1
    grind
  have h0 := hz 0
  have e0 : (sm n fun k => D n (setR (mix A z 0 k) k (unitRow k))) = sm n fun k => cof n (xz A z) k k := sm_congr fun k _ => by
    have : mix A z 0 k = xz A z := by funext i j; simp only [mix]; split <;> simp only [xz] <;> grind
    rw [this]; rfl
  rw [← e0]
  have h0' : ((sm n fun k => D n (setR (mix A z 0 k) k (unitRow k))) + -1 * (sm m fun i => c i * dfp z i)) + -1 * (0 * h 0) = 0 := h0
  grind

/-! the coefficients of the cofactors -/
theorem cof_isP (n : Nat) (A : Mx) (j i : Nat) : IsP (2 * n + 1) fun z => cof n (xz A z) j i := IsP.D fun p q _ _ => by
  by_cases e : p = j
  · exact ((IsP.const (if q = i then 1 else 0)).mono (by omega)).congr fun y => by simp only [setR, if_pos e]
  · by_cases e2 : p = q
    · exact (IsP.id.add ((IsP.const (- A p q)).mono (by omega))).congr fun y => by simp only [setR, if_neg e, xz, if_pos e2]; grind
    · exact ((IsP.const (0 - A p q)).mono (by omega)).congr fun y => by simp only [setR, if_neg e, xz, if_neg e2]
/-- tables C l (coefficients of the cofactors) with C (l - 1) - A C l = c l times the unit table, and traces told by c -/
theorem cof_coeffs {n : Nat} {A : Mx} {c : Nat → F} (hn : n ≤ 1000) (hc : ∀ z, chi n A z = ev (n + 1) c z) (hz : ∀ l, n < l → c l = 0) :
    ∃ C : Nat → Mx, (∀ l k j, k < n → j < n → n ≤ l → C l k j = 0) ∧
      (∀ l k j, k < n → j < n → C l k j - mm n A (C (l + 1)) k j = if k = j then c (l + 1) else 0) ∧
      (∀ k j, k < n → j < n → - mm n A (C 0) k j = if k = j then c 0 else 0) ∧ ∀ l, trc n (C l) = nf (l + 1) * c (l + 1) := by
  have hN : ∃ C : Nat → Mx, (∀ l i j, 2 * n + 1 ≤ l → C l i j = 0) ∧ ∀ i j z, cof n (xz A z) j i = ev (2 * n + 1) (fun l => C l i j) z := by
    have hex : ∀ i j, ∃ c : Nat → F, ∀ z, cof n (xz A z) j i = ev (2 * n + 1) c z := fun i j => cof_isP n A j i
    obtain ⟨g, hg⟩ : ∃ g : Nat → Nat → Nat → F, ∀ i j z, cof n (xz A z) j i = ev (2 * n + 1) (g i j) z := ⟨fun i j => Classical.choose (hex i j), fun i j => Classical.choose_spec (hex i j)⟩
    refine ⟨fun l i j => if l < 2 * n + 1 then g i j l else 0, fun l i j h => if_neg (by omega), fun i j z => ?_⟩
    rw [ev_more _ z (Nat.le_refl (2 * n + 1))]
    exact hg i j z
  obtain ⟨C, hC0, hC⟩ := hN
  -- the coefficients of cramer's rule
  have rel : ∀ k j, k < n → j < n → ∀ l, l < 2 * n + 2 → (if l = 0 then 0 else C (l - 1) k j) - mm n A (C l) k j = if k = j then c l else 0 := by
    intro k j hk hj
    have := ev_inj (m := 2 * n + 2) (c := fun l => (if l = 0 then 0 else C (l - 1) k j) - mm n A (C l) k j) (d := fun l => if k = j then c l else 0) (by omega) (fun z => ?_)
    · exact this
    · have e1 : ev (2 * n + 2) (fun l => (if l = 0 then 0 else C (l - 1) k j) - mm n A (C l) k j) z = z * ev (2 * n + 1) (fun l => C l k j) z - sm n fun i => A k i * ev (2 * n + 1) (fun l => C l i j) z := by
        have h1 : ev (2 * n + 2) (fun l => (if l = 0 then 0 else C (l - 1) k j) - mm n A (C l) k j) z = ev (2 * n + 2) (fun l => if l = 0 then 0 else C (l - 1) k j) z - ev (2 * n + 2) (fun l => mm n A (C l) k j) z := by
          unfold ev; rw [← sm_sub]; exact sm_congr fun l _ => by grind
        have h2 := ev_shift (2 * n + 1) (fun l => C l k j) z
        have h3 : ev (2 * n + 2) (fun l => mm n A (C l) k j) z = sm n fun i => A k i * ev (2 * n + 1) (fun l => C l i j) z := by
          have : ev (2 * n + 2) (fun l => mm n A (C l) k j) z = sm (2 * n + 2) fun l => sm n fun i => A k i * (C l i j * fp z l) := sm_congr fun l _ => by
            show (sm n fun i => A k i * C l i j) * fp z l = _
            rw [← sm_mul']; exact sm_congr fun i _ => by grind
          rw [this, sm_comm]
          refine sm_congr fun i _ => ?_
          rw [sm_mul]
          congr 1
          rw [sm_succ, hC0 _ i j (by omega)]
          unfold ev; grind
        rw [h1, h2, h3]
      have e2 : ev (2 * n + 2) (fun l => if k = j then c l else 0) z = if k = j then chi n A z else 0 := by
        by_cases h : k = j
        · simp only [if_pos h]
          rw [hc]
          have := ev_more (m := n + 1) (n := 2 * n + 2) c z (by omega)
          rw [← this]
          exact sm_congr fun l _ => by
            by_cases h' : l < n + 1
            · simp only [if_pos h']
            · simp only [if_neg h']; rw [hz l (by omega)]
        · simp only [if_neg h]; exact sm_zero fun l _ => by grind
      rw [e1, e2]
      have h5 := cramer (xz A z) hk hj
      have h6 : (sm n fun i => xz A z k i * cof n (xz A z) j i) = z * cof n (xz A z) j k - sm n fun i => A k i * cof n (xz A z) j i := by
        have : ∀ i, xz A z k i * cof n (xz A z) j i = (if i = k then z * cof n (xz A z) j k else 0) - A k i * cof n (xz A z) j i := fun i => by
          simp only [xz]
          by_cases h : k = i
          · rw [if_pos h, if_pos h.symm, h]; grind
          · rw [if_neg h, if_neg (fun e => h e.symm)]; grind
        rw [sm_congr fun i _ => this i, sm_sub, sm_one (k := k) hk (fun i _ h => by rw [if_neg h]), if_pos rfl]
      rw [h6, hC] at h5
      rw [sm_congr fun i _ => by rw [hC]] at h5
      exact h5
  have top : ∀ m l k j, l + m = 2 * n + 1 → n ≤ l → k < n → j < n → C l k j = 0 := by
    intro m
    induction m with
    | zero => intro l k j h _ _ _; exact hC0 l k j (by omega)
    | succ m ih =>
      intro l k j h hl hk hj
      have := rel k j hk hj (l + 1) (by omega)
      rw [if_neg (by omega), show l + 1 - 1 = l from rfl, hz (l + 1) (by omega)] at this
      have e : mm n A (C (l + 1)) k j = 0 := sm_zero fun i hi => by rw [ih (l + 1) i j (by omega) (by omega) hi hj]; grind
      rw [e] at this
      simp only [ite_self] at this
      grind
  have top' : ∀ l k j, k < n → j < n → n ≤ l → C l k j = 0 := fun l k j hk hj hl => by
    rcases Nat.lt_or_ge l (2 * n + 1) with h | h
    · exact top (2 * n + 1 - l) l k j (by omega) hl hk hj
    · exact hC0 l k j h
  refine ⟨C, top', fun l k j hk hj => ?_, fun k j hk hj => ?_, ?_⟩
  · rcases Nat.lt_or_ge (l + 1) (2 * n + 2) with h | h
    · have := rel k j hk hj (l + 1) h
      rw [if_neg (by omega), show l + 1 - 1 = l from rfl] at this
      exact this
    · rw [hC0 l k j (by omega), hz (l + 1) (by omega)]
      have e : mm n A (C (l + 1)) k j = 0 := sm_zero fun i hi => by rw [hC0 (l + 1) i j (by omega)]; grind
      rw [e]; simp only [ite_self]; grind
  · have := rel k j hk hj 0 (by omega)
    rw [if_pos rfl] at this
    rw [← this]; grind
  · have key := ev_inj (m := 2 * n + 1) (c := fun l => trc n (C l)) (d := fun l => nf (l + 1) * c (l + 1)) (by omega) fun z => by
      have h1 : ev (2 * n + 1) (fun l => trc n (C l)) z = sm n fun k => cof n (xz A z) k k := by
        have : ev (2 * n + 1) (fun l => trc n (C l)) z = sm (2 * n + 1) fun l => sm n fun k => C l k k * fp z l := sm_congr fun l _ => (sm_mul' _ _ _).symm
        rw [this, sm_comm]
        exact sm_congr fun k _ => (hC k k z).symm
      rw [h1, jacobi (m := n + 1) hn (by omega) hc, sm_head]
      have h2 : ev (2 * n + 1) (fun l => nf (l + 1) * c (l + 1)) z = sm n fun i => c (i + 1) * dfp z (i + 1) := by
        have := ev_more (m := n) (n := 2 * n + 1) (fun l => nf (l + 1) * c (l + 1)) z (by omega)
        have e : ev (2 * n + 1) (fun l => nf (l + 1) * c (l + 1)) z = ev (2 * n + 1) (fun i => if i < n then nf (i + 1) * c (i + 1) else 0) z := sm_congr fun l _ => by
          show _ = (if l < n then nf (l + 1) * c (l + 1) else 0) * _
          by_cases h : l < n
          · rw [if_pos h]
          · rw [if_neg h]; show nf (l + 1) * c (l + 1) * _ = _; rw [hz (l + 1) (by omega)]; grind
        rw [e, this]
        exact sm_congr fun i _ => by rw [dfp_eq]; grind
      rw [h2]
      show c 0 * 0 + _ = _; grind
    intro l
    rcases Nat.lt_or_ge l (2 * n + 1) with h | h
    · exact key l h
    · rw [hz (l + 1) (by omega)]
      have : trc n (C l) = 0 := sm_zero fun k _ => hC0 l k k h
      rw [this]; grind
end Fus
