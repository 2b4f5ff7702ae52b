/- Plain algebra over the field with 55441 elements: zeros of polynomials, one after the other. No program in sight. -/
import Derived.Test.YtjjoicbgnchkdaaSim
namespace Fus
/-! zeros of polynomials as the programs find them -/
/-- the value of the coefficients from place k on -/
def hz (c : Nat → F) (z : F) (m k : Nat) : F := sm (m - k) fun i => c (k + i) * fp z i
theorem hz_top (c : Nat → F) (z : F) {m k : Nat} (h : m ≤ k) : hz c z m k = 0 := by
  unfold hz; rw [show m - k = 0 from by omega]; rfl
theorem hz_step (c : Nat → F) (z : F) {m k : Nat} (h : k < m) : hz c z m k = hz c z m (k + 1) * z + c k := by
  unfold hz
  obtain ⟨l, hl⟩ : ∃ l, m - k = l + 1 := ⟨m - k - 1, by omega⟩
  rw [hl, sm_head, show m - (k + 1) = l from by omega, ← sm_mul']
  have e : (sm l fun i => c (k + (i + 1)) * fp z (i + 1)) = sm l fun i => c (k + 1 + i) * fp z i * z := sm_congr fun i _ => by
    rw [show k + (i + 1) = k + 1 + i from by omega]; show _ * (fp z i * z) = _; grind
  rw [e]
  show c (k + 0) * 1 + _ = _
  rw [Nat.add_zero]; grind
theorem hz_ev (c : Nat → F) (z : F) (m : Nat) : hz c z m 0 = ev m c z := by
  unfold hz ev; exact sm_congr fun i _ => by rw [Nat.zero_add]
theorem hz_sdiv (c : Nat → F) (r : F) (m k : Nat) : hz c r m (k + 1) = sdiv c r m k := by
  unfold hz sdiv; rw [show m - (k + 1) = m - 1 - k from by omega]
theorem sdiv_lead (c : Nat → F) (r : F) {m : Nat} (h : 2 ≤ m) : sdiv c r m (m - 2) = c (m - 1) := by
  rw [← hz_sdiv, show m - 2 + 1 = m - 1 from by omega, hz_step c r (by omega), hz_top c r (by omega)]; grind
def fnat (k : Nat) : F := ofI (k : Int)
theorem fnat_toI {k : Nat} (h : (k : Int) < 55441) : toI (fnat k) = k := by unfold fnat; rw [toI_ofI]; omega
theorem fnat_val {k : Nat} (h : (k : Int) < 55441) : ((fnat k).val : Int) = k := by
  have := fnat_toI h
  unfold toI at this
  exact this
theorem fnat_of (x : F) : fnat x.val = x := by
  have := ofI_toI x
  unfold toI at this
  exact this
theorem fnat_eq {k : Nat} {x : F} (h : x.val = k) : fnat k = x := by rw [← h]; exact fnat_of x
/-- the zeros below k in ascending order -/
def rts (m : Nat) (c : Nat → F) : Nat → List Int
  | 0 => []
  | k + 1 => rts m c k ++ (if ev m c (fnat k) = 0 then [(k : Int)] else [])
theorem rts_yes {m : Nat} {c : Nat → F} {k : Nat} (h : ev m c (fnat k) = 0) : rts m c (k + 1) = rts m c k ++ [(k : Int)] := by show _ ++ (if _ then _ else _) = _; rw [if_pos h]
theorem rts_no {m : Nat} {c : Nat → F} {k : Nat} (h : ev m c (fnat k) ≠ 0) : rts m c (k + 1) = rts m c k := by show _ ++ (if _ then _ else _) = _; rw [if_neg h, List.append_nil]
theorem rts_length (m : Nat) (c : Nat → F) (k : Nat) : (rts m c k).length ≤ k := by
  induction k with
  | zero => exact Nat.le_refl _
  | succ k ih =>
    by_cases h : ev m c (fnat k) = 0
    · rw [rts_yes h, List.length_append]; show _ + 1 ≤ _; omega
    · rw [rts_no h]; omega
theorem rts_mem {m : Nat} {c : Nat → F} {k : Nat} {x : Int} : x ∈ rts m c k ↔ ∃ j : Nat, j < k ∧ x = j ∧ ev m c (fnat j) = 0 := by
  induction k with
  | zero => exact ⟨(fun h => by cases h), (fun ⟨j, h, _⟩ => by omega)⟩
  | succ k ih =>
    by_cases h : ev m c (fnat k) = 0
    · rw [rts_yes h, List.mem_append, List.mem_singleton, ih]
      constructor
      · rintro (⟨j, h1, h2, h3⟩ | h1)
        · exact ⟨j, by omega, h2, h3⟩
        · exact ⟨k, by omega, h1, h⟩
      · rintro ⟨j, h1, h2, h3⟩
        by_cases e : j = k
        · exact .inr (by rw [h2, e])
        · exact .inl ⟨j, by omega, h2, h3⟩
    · rw [rts_no h, ih]
      constructor
      · rintro ⟨j, h1, h2, h3⟩; exact ⟨j, by omega, h2, h3⟩
      · rintro ⟨j, h1, h2, h3⟩
        by_cases e : j = k
        · rw [e] at h3; exact absurd h3 h
        · exact ⟨j, by omega, h2, h3⟩
theorem rts_stop {m : Nat} {c : Nat → F} {k n : Nat} (hk : k ≤ n) (h : ∀ j, k ≤ j → j < n → ev m c (fnat j) ≠ 0) : rts m c n = rts m c k := by
  induction n with
  | zero => rw [show k = 0 from by omega]
  | succ n ih =>
    by_cases e : k = n + 1
    · rw [e]
    · rw [rts_no (h n (by omega) (by omega)), ih (by omega) (fun j h1 h2 => h j h1 (by omega))]
/-- what is left of a polynomial when the zeros below k are divided out -/
structure Left (m0 : Nat) (c0 : Nat → F) (m : Nat) (c : Nat → F) (k : Nat) : Prop where
  pos : 0 < m
  le : m ≤ m0
  lead : c (m - 1) = 1
  same : ∀ j : Nat, k ≤ j → (j : Int) < 55441 → (ev m0 c0 (fnat j) = 0 ↔ ev m c (fnat j) = 0)
theorem Left.start {m : Nat} {c : Nat → F} (h : 0 < m) (h1 : c (m - 1) = 1) : Left m c m c 0 := ⟨h, Nat.le_refl _, h1, fun _ _ _ => Iff.rfl⟩
theorem Left.next {m0 m : Nat} {c0 c : Nat → F} {k : Nat} (h : Left m0 c0 m c k) : Left m0 c0 m c (k + 1) := ⟨h.pos, h.le, h.lead, fun j h1 h2 => h.same j (by omega) h2⟩
theorem Left.div {m0 m : Nat} {c0 c : Nat → F} {k : Nat} (h : Left m0 c0 m c (k + 1)) (hm : 2 ≤ m) (hk : (k : Int) < 55441) (hz : ev m c (fnat k) = 0) : Left m0 c0 (m - 1) (sdiv c (fnat k) m) (k + 1) := by
  refine ⟨by omega, by have := h.le; omega, ?_, fun j h1 h2 => ?_⟩
  · rw [show m - 1 - 1 = m - 2 from by omega, sdiv_lead c _ hm]; exact h.lead
  · rw [h.same j h1 h2, ev_sdiv c (fnat k) (fnat j) m (by omega), hz]
    have hne : fnat j - fnat k ≠ 0 := fun e => by
      have : fnat j = fnat k := by grind
      have h3 := fnat_toI h2
      rw [this, fnat_toI hk] at h3
      omega
    constructor
    · intro e
      rcases mul_zero_or (a := fnat j - fnat k) (b := ev (m - 1) (sdiv c (fnat k) m) (fnat j)) (by grind) with h4 | h4
      · exact absurd h4 hne
      · exact h4
    · intro e; rw [e]; grind
theorem Left.one {m0 m : Nat} {c0 c : Nat → F} {k : Nat} (h : Left m0 c0 m c k) (hm : m = 1) {n : Nat} (hk : k ≤ n) (hn : (n : Int) ≤ 55441) : rts m0 c0 n = rts m0 c0 k := by
  refine rts_stop hk fun j h1 h2 => ?_
  intro e
  have h3 := (h.same j h1 (by omega)).1 e
  have h4 := h.lead
  subst hm
  have : ev 1 c (fnat j) = c 0 := by unfold ev sm sm fp; grind
  rw [this] at h3
  have h5 : c (1 - 1) = c 0 := rfl
  rw [h5, h3] at h4
  exact zero_ne_one h4
theorem ev_congr {m : Nat} {c d : Nat → F} (z : F) (h : ∀ i, i < m → c i = d i) : ev m c z = ev m d z := sm_congr fun i hi => by rw [h i hi]
theorem rts_congr {m : Nat} {c d : Nat → F} (h : ∀ i, i < m → c i = d i) (k : Nat) : rts m c k = rts m d k := by
  induction k with
  | zero => rfl
  | succ k ih => unfold rts; rw [ih, ev_congr _ h]
end Fus
