/- Plain algebra over the field with 55441 elements: polynomials. No program in sight. -/
import Derived.Test.YtjjoicbgnchkdaaMdt
namespace Fus
/-! polynomials over the field: as functions, and as lists of coefficients -/
def fp (z : F) : Nat → F
  | 0 => 1
  | k + 1 => fp z k * z
/-- the value of the polynomial with the first m coefficients c -/
def ev (m : Nat) (c : Nat → F) (z : F) : F := sm m fun i => c i * fp z i
/-- a function that is a polynomial with m coefficients -/
def IsP (m : Nat) (g : F → F) : Prop := ∃ c : Nat → F, ∀ z, g z = ev m c z

/-- the quotient by z less r, as coefficients: from above -/
def sdiv (c : Nat → F) (r : F) (m : Nat) : Nat → F := fun k => sm (m - 1 - k) fun i => c (k + 1 + i) * fp r i
theorem sm_head (n : Nat) (f : Nat → F) : sm (n + 1) f = f 0 + sm n fun i => f (i + 1) := by
  induction n with
  | zero => simp only [sm]; grind
  | succ n ih => rw [sm_succ, ih, sm_succ]; grind
theorem sdiv_step (c : Nat → F) (r : F) {m k : Nat} (h : k + 1 < m) : sdiv c r m k = c (k + 1) + r * sdiv c r m (k + 1) := by
  unfold sdiv
  obtain ⟨l, hl⟩ : ∃ l, m - 1 - k = l + 1 := ⟨m - 1 - k - 1, by omega⟩
  rw [hl, sm_head, show m - 1 - (k + 1) = l from by omega, ← sm_mul]
  congr 1
  · show c (k + 1 + 0) * 1 = _; rw [Nat.add_zero]; grind
  · exact sm_congr fun i _ => by rw [show k + 1 + (i + 1) = k + 1 + 1 + i from by omega]; show _ * (fp r i * r) = _; grind
theorem sdiv_top (c : Nat → F) (r : F) {m k : Nat} (h : m ≤ k + 1) : sdiv c r m k = 0 := by
  unfold sdiv; rw [show m - 1 - k = 0 from by omega]; rfl
theorem ev_sdiv (c : Nat → F) (r z : F) : ∀ m, 0 < m → ev m c z = (z - r) * ev (m - 1) (sdiv c r m) z + ev m c r := by
  intro m hm
  obtain ⟨l, rfl⟩ : ∃ l, m = l + 1 := ⟨m - 1, by omega⟩
  -- c k = sdiv (k - 1) - r sdiv k
  have h1 : sdiv c r (l + 1) 0 = sm l fun i => c (i + 1) * fp r i := by
    unfold sdiv; rw [show l + 1 - 1 - 0 = l from by omega]; exact sm_congr fun i _ => by rw [show 0 + 1 + i = i + 1 from by omega]
  have e1 : ev (l + 1) c r = c 0 + r * sdiv c r (l + 1) 0 := by
    rw [h1, ← sm_mul]; unfold ev; rw [sm_head]
    congr 1
    · show c 0 * 1 = _; grind
    · exact sm_congr fun i _ => by show _ * (fp r i * r) = _; grind
  have key : ∀ n, n ≤ l → ev (n + 1) c z = c 0 + z * (sm n fun k => sdiv c r (l + 1) k * fp z k) - r * (sm n fun k => sdiv c r (l + 1) (k + 1) * fp z (k + 1)) := by
    intro n
    induction n with
    | zero => intro _; simp only [ev, sm, fp]; grind
    | succ n ih =>
      intro hn
      have e2 : ev (n + 1 + 1) c z = ev (n + 1) c z + c (n + 1) * fp z (n + 1) := rfl
      rw [e2, ih (by omega), sm_succ, sm_succ, sdiv_step c r (m := l + 1) (k := n) (by omega)]
      show _ + c (n + 1) * (fp z n * z) = c 0 + z * (_ + (c (n + 1) + r * sdiv c r (l + 1) (n + 1)) * fp z n) - r * (_ + sdiv c r (l + 1) (n + 1) * (fp z n * z))
      grind
  have e3 : (sm l fun k => sdiv c r (l + 1) (k + 1) * fp z (k + 1)) = ev l (sdiv c r (l + 1)) z - sdiv c r (l + 1) 0 := by
    have : (sm (l + 1) fun k => sdiv c r (l + 1) k * fp z k) = ev l (sdiv c r (l + 1)) z := by
      rw [sm_succ, sdiv_top c r (by omega)]; unfold ev; grind
    rw [← this, sm_head]; show _ = sdiv c r (l + 1) 0 * 1 + _ - _; grind
  rw [key l (Nat.le_refl _), e1, e3, show l + 1 - 1 = l from rfl]
  unfold ev
  grind
/-- a polynomial with as many zeros as coefficients is 0 -/
theorem ev_zero : ∀ (m : Nat) (c : Nat → F) (N : Nat), m ≤ N → N ≤ 55441 → (∀ z : F, z.val < N → ev m c z = 0) → ∀ i, i < m → c i = 0 := by
  intro m
  induction m with
  | zero => intro c N _ _ _ i hi; omega
  | succ m ih =>
    intro c N hm hN h
    obtain ⟨N', rfl⟩ : ∃ N', N = N' + 1 := ⟨N - 1, by omega⟩
    have hr : N' < 55441 := by omega
    let r : F := ⟨N', hr⟩
    have hr0 : ev (m + 1) c r = 0 := h r (by show N' < N' + 1; omega)
    have hq : ∀ z : F, z.val < N' → ev m (sdiv c r (m + 1)) z = 0 := by
      intro z hz
      have h1 := ev_sdiv c r z (m + 1) (by omega)
      rw [h z (by omega), hr0] at h1
      rcases mul_zero_or (a := z - r) (b := ev m (sdiv c r (m + 1)) z) (by show (z - r) * ev (m + 1 - 1) (sdiv c r (m + 1)) z = 0; grind) with h2 | h2
      · exfalso
        have : z = r := by grind
        have : z.val = N' := by rw [this]
        omega
      · exact h2
    have hs := ih (sdiv c r (m + 1)) N' (by omega) (by omega) hq
    have hs' : ∀ k, sdiv c r (m + 1) k = 0 := fun k => by
      rcases Nat.lt_or_ge k m with h1 | h1
      · exact hs k h1
      · exact sdiv_top c r (by omega)
    intro i hi
    cases i with
    | zero =>
      have h1 : sdiv c r (m + 1) 0 = sm m fun i => c (i + 1) * fp r i := by
        unfold sdiv; rw [show m + 1 - 1 - 0 = m from by omega]; exact sm_congr fun i _ => by rw [show 0 + 1 + i = i + 1 from by omega]
      have e1 : ev (m + 1) c r = c 0 + r * sdiv c r (m + 1) 0 := by
        rw [h1, ← sm_mul]; unfold ev; rw [sm_head]
        congr 1
        · show c 0 * 1 = _; grind
        · exact sm_congr fun i _ => by show _ * (fp r i * r) = _; grind
      rw [hr0, hs' 0] at e1; grind
    | succ i =>
      have := sdiv_step c r (m := m + 1) (k := i) (by omega)
      rw [hs', hs'] at this; grind
theorem ev_inj {m : Nat} {c d : Nat → F} (hm : m ≤ 55441) (h : ∀ z, ev m c z = ev m d z) : ∀ i, i < m → c i = d i := by
  have := ev_zero m (fun i => c i - d i) 55441 hm (Nat.le_refl _) fun z _ => by
    have e : ev m (fun i => c i - d i) z = ev m c z - ev m d z := by unfold ev; rw [← sm_sub]; exact sm_congr fun i _ => by grind
    rw [e, h z]; grind
  intro i hi
  have := this i hi
  grind

theorem ev_more {m n : Nat} (c : Nat → F) (z : F) (h : m ≤ n) : ev n (fun i => if i < m then c i else 0) z = ev m c z := by
  obtain ⟨l, rfl⟩ : ∃ l, n = m + l := ⟨n - m, by omega⟩
  unfold ev
  have e1 : (sm l fun i => (fun i => if i < m then c i else 0) (m + i) * fp z (m + i)) = 0 := sm_zero fun i _ => by
    show (if m + i < m then c (m + i) else 0) * _ = 0
    rw [if_neg (by omega)]; grind
  have e2 : (sm m fun i => (fun i => if i < m then c i else 0) i * fp z i) = sm m fun i => c i * fp z i := sm_congr fun i hi => by
    show (if i < m then c i else 0) * _ = _
    rw [if_pos hi]
  rw [sm_split, e1, e2]
  grind
theorem IsP.mono {m n : Nat} {g : F → F} (h : IsP m g) (hm : m ≤ n) : IsP n g := by
  obtain ⟨c, hc⟩ := h
  exact ⟨_, fun z => (hc z).trans (ev_more c z hm).symm⟩
theorem IsP.congr {m : Nat} {g h : F → F} (hg : IsP m g) (e : ∀ z, h z = g z) : IsP m h := by
  obtain ⟨c, hc⟩ := hg; exact ⟨c, fun z => (e z).trans (hc z)⟩
theorem IsP.const (a : F) : IsP 1 fun _ => a := ⟨fun _ => a, fun z => by simp only [ev, sm, fp]; grind⟩
theorem IsP.add {m : Nat} {g h : F → F} (hg : IsP m g) (hh : IsP m h) : IsP m fun z => g z + h z := by
  obtain ⟨c, hc⟩ := hg; obtain ⟨d, hd⟩ := hh
  exact ⟨fun i => c i + d i, fun z => by show g z + h z = _; rw [hc, hd]; unfold ev; rw [← sm_add]; exact sm_congr fun i _ => by grind⟩
theorem IsP.smul {m : Nat} {g : F → F} (hg : IsP m g) (a : F) : IsP m fun z => a * g z := by
  obtain ⟨c, hc⟩ := hg
  exact ⟨fun i => a * c i, fun z => by show a * g z = _; rw [hc]; unfold ev; rw [← sm_mul]; exact sm_congr fun i _ => by grind⟩
theorem ev_shift (m : Nat) (c : Nat → F) (z : F) : ev (m + 1) (fun i => if i = 0 then 0 else c (i - 1)) z = z * ev m c z := by
  unfold ev
  rw [sm_head, ← sm_mul]
  simp only [if_true]
  rw [sm_congr (g := fun i => z * (c i * fp z i)) (fun i _ => by rw [if_neg (by omega), show i + 1 - 1 = i from rfl]; show _ * (fp z i * z) = _; grind)]
  grind
theorem IsP.shift {m : Nat} {g : F → F} (hg : IsP m g) : IsP (m + 1) fun z => z * g z := by
  obtain ⟨c, hc⟩ := hg
  exact ⟨_, fun z => by show z * g z = _; rw [hc]; exact (ev_shift m c z).symm⟩
theorem IsP.mul {m n : Nat} {g h : F → F} (hg : IsP m g) (hh : IsP n h) : IsP (m + n) fun z => g z * h z := by
  obtain ⟨c, hc⟩ := hg
  have main : ∀ k, k ≤ m → IsP (k + n) fun z => ev k c z * h z := by
    intro k
    induction k with
    | zero => intro _; exact ⟨fun _ => 0, fun z => by unfold ev; rw [sm_zero (fun i _ => by grind)]; show 0 * _ = _; grind⟩
    | succ k ih =>
      intro hk
      have hp : IsP (k + n) fun z => fp z k * h z := by
        clear ih hk
        induction k with
        | zero => exact (hh.mono (by omega)).congr fun z => by show 1 * _ = _; grind
        | succ k ih => exact (ih.shift.mono (by omega)).congr fun z => by show fp z k * z * _ = _; grind
      exact (((ih (by omega)).mono (by omega)).add ((hp.smul (c k)).mono (by omega))).congr fun z => by
        show (ev k c z + c k * fp z k) * h z = _; grind
  exact (main m (Nat.le_refl _)).congr fun z => by rw [hc]
theorem IsP.zero (m : Nat) : IsP m fun _ => 0 := ⟨fun _ => 0, fun z => by unfold ev; rw [sm_zero (fun i _ => by grind)]⟩
theorem IsP.sum {m n : Nat} {g : Nat → F → F} (h : ∀ i, i < n → IsP m (g i)) : IsP m fun z => sm n fun i => g i z := by
  induction n with
  | zero => exact IsP.zero m
  | succ n ih => exact (ih fun i hi => h i (by omega)).add (h n (by omega))
theorem IsP.id : IsP 2 fun z => z := ⟨fun i => if i = 1 then 1 else 0, fun z => by simp only [ev, sm, fp]; grind⟩
/-- a polynomial that vanishes times z vanishes -/
theorem IsP.cancel {m : Nat} {g : F → F} (hm : m + 1 ≤ 55441) (hg : IsP m g) (h : ∀ z, z * g z = 0) : ∀ z, g z = 0 := by
  obtain ⟨c, hc⟩ := hg
  have := ev_zero (m + 1) (fun i => if i = 0 then 0 else c (i - 1)) 55441 hm (Nat.le_refl _) fun z _ => by rw [ev_shift, ← hc]; exact h z
  intro z
  rw [hc]
  exact sm_zero fun i hi => by have := this (i + 1) (by omega); rw [if_neg (by omega)] at this; rw [show c i = 0 from this]; grind
/-- determinants of tables of polynomials -/
theorem IsP.D {n : Nat} : ∀ {X : F → Mx} (_ : ∀ i j, i < n → j < n → IsP 2 fun z => X z i j), IsP (2 * n + 1) fun z => D n (X z) := by
  induction n with
  | zero => intro X _; exact IsP.const 1
  | succ n ih =>
    intro X h
    refine IsP.sum (n := n + 1) (g := fun i z => sgn (n + i) * X z i n * Fus.D n (minor (X z) i)) fun i hi => ?_
    have h1 := (h i n hi (by omega)).smul (sgn (n + i))
    have h2 := ih (X := fun z => minor (X z) i) fun a b ha hb => h _ _ (skip_lt ha) (by omega)
    exact (h1.mul h2).mono (by omega)
end Fus
