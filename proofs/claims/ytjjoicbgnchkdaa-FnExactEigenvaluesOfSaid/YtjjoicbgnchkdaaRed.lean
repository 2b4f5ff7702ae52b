/- Plain algebra over the field with 55441 elements: reduced rows and their kernels. No program in sight. -/
import Derived.Test.YtjjoicbgnchkdaaLin
namespace Fus
/-! what reduced rows are, and what reduction keeps -/
/-- the rows f (r of them) are reduced in the first k columns, with d leading ones in the columns p -/
structure Red (r k : Nat) (f : Mx) (d : Nat) (p : Nat → Nat) : Prop where
  le : d ≤ r
  lt : ∀ i, i < d → p i < k
  inc : ∀ i j, i < j → j < d → p i < p j
  col : ∀ i a, i < d → a < r → f a (p i) = if a = i then 1 else 0
  left : ∀ i j, i < d → j < p i → f i j = 0
  rest : ∀ i j, d ≤ i → i < r → j < k → f i j = 0

theorem red_start (r : Nat) (f : Mx) : Red r 0 f 0 id :=
  ⟨Nat.zero_le _, fun i h => by omega, fun i j _ h => by omega, fun i a h => by omega, fun i j h => by omega, fun i j _ _ h => by omega⟩
theorem red_none {r k d : Nat} {f : Mx} {p : Nat → Nat} (h : Red r k f d p) (hz : ∀ i, d ≤ i → i < r → f i k = 0) : Red r (k + 1) f d p :=
  ⟨h.le, fun i hi => by have := h.lt i hi; omega, h.inc, h.col, h.left, fun i j h1 h2 h3 => by
    by_cases e : j = k
    · subst e; exact hz i h1 h2
    · exact h.rest i j h1 h2 (by omega)⟩
theorem red_some {r k d n : Nat} {f : Mx} {p : Nat → Nat} (h : Red r k f d p) (hn : d + n < r) (hne : f (d + n) k ≠ 0) :
    Red r (k + 1) (clearR (scaleR (swapR f d (d + n)) d (finv (f (d + n) k))) d k) (d + 1) (fun i => if i = d then k else p i) := by
  have hinv := mul_finv hne
  generalize finv (f (d + n) k) = c at hinv
  -- the row of the lead
  have hd : ∀ j, scaleR (swapR f d (d + n)) d c d j = f (d + n) j * c := fun j => by simp [scaleR, swapR]
  have hdk : ∀ j, j < k → scaleR (swapR f d (d + n)) d c d j = 0 := fun j hj => by rw [hd, h.rest (d + n) j (by omega) hn hj]; grind
  have hdd : scaleR (swapR f d (d + n)) d c d k = 1 := by rw [hd]; exact hinv
  -- rows above stay in the first columns
  have hlow : ∀ a j, a ≠ d → j < k → clearR (scaleR (swapR f d (d + n)) d c) d k a j = if a = d + n then f d j else f a j := by
    intro a j ha hj
    have e : clearR (scaleR (swapR f d (d + n)) d c) d k a j = scaleR (swapR f d (d + n)) d c a j - scaleR (swapR f d (d + n)) d c a k * scaleR (swapR f d (d + n)) d c d j := by simp only [clearR]; rw [if_neg ha]
    rw [e, hdk j hj]
    have e2 : scaleR (swapR f d (d + n)) d c a j = if a = d + n then f d j else f a j := by simp only [scaleR]; rw [if_neg ha]; simp only [swapR]; rw [if_neg ha]
    rw [e2]; grind
  have hself : ∀ j, clearR (scaleR (swapR f d (d + n)) d c) d k d j = scaleR (swapR f d (d + n)) d c d j := fun j => by simp [clearR]
  have hcol : ∀ a, a ≠ d → clearR (scaleR (swapR f d (d + n)) d c) d k a k = 0 := fun a ha => by
    have e : clearR (scaleR (swapR f d (d + n)) d c) d k a k = scaleR (swapR f d (d + n)) d c a k - scaleR (swapR f d (d + n)) d c a k * scaleR (swapR f d (d + n)) d c d k := by simp only [clearR]; rw [if_neg ha]
    rw [e, hdd]; grind
  refine ⟨by omega, ?_, ?_, ?_, ?_, ?_⟩
  · intro i hi
    by_cases e : i = d
    · simp [e]
    · simp only [if_neg e]; have := h.lt i (by omega); omega
  · intro i j hij hj
    have e1 : i ≠ d := by omega
    simp only [if_neg e1]
    by_cases e2 : j = d
    · simp only [if_pos e2]; exact h.lt i (by omega)
    · simp only [if_neg e2]; exact h.inc i j hij (by omega)
  · intro i a hi ha
    by_cases e : i = d
    · subst e
      simp only [if_true]
      by_cases e2 : a = i
      · subst e2; rw [hself, hdd, if_pos rfl]
      · rw [hcol a e2, if_neg e2]
    · simp only [if_neg e]
      have hp := h.lt i (by omega)
      by_cases e2 : a = d
      · subst e2; rw [hself, hdk _ hp, if_neg (fun e' => e e'.symm)]
      · rw [hlow a _ e2 hp]
        by_cases e3 : a = d + n
        · rw [if_pos e3, h.col i d (by omega) (by omega), if_neg (fun e' => e e'.symm), if_neg (by omega)]
        · rw [if_neg e3, h.col i a (by omega) ha]
  · intro i j hi hj
    by_cases e : i = d
    · subst e; simp only [if_true] at hj; rw [hself, hdk j hj]
    · simp only [if_neg e] at hj
      have hp := h.lt i (by omega)
      rw [hlow i j e (by omega), if_neg (by omega)]
      exact h.left i j (by omega) hj
  · intro i j h1 h2 h3
    by_cases e : j = k
    · subst e; exact hcol i (by omega)
    · rw [hlow i j (by omega) (by omega)]
      split
      · exact h.rest d j (by omega) (by omega) (by omega)
      · exact h.rest i j (by omega) h2 (by omega)
theorem red_redR (r : Nat) (f : Mx) (k : Nat) : ∃ p, Red r k (redR r f k).f (redR r f k).d p := by
  induction k with
  | zero => exact ⟨id, red_start r f⟩
  | succ k ih =>
    obtain ⟨p, h⟩ := ih
    rw [redR_succ]
    rcases pivot_cases (redR r f k).f k (redR r f k).d r with ⟨n, h1, h2, _, h4⟩ | ⟨h1, h2⟩
    · rw [stepR_some h4]; exact ⟨_, red_some h h1 h2⟩
    · rw [stepR_none h2]; exact ⟨p, red_none h h1⟩

/-- the vector x is led to 0 by the rows f -/
def Ker (r c : Nat) (f : Mx) (x : Nat → F) : Prop := ∀ i, i < r → sm c (fun j => f i j * x j) = 0
theorem ker_swap {r c a b : Nat} {f : Mx} {x : Nat → F} (ha : a < r) (hb : b < r) : Ker r c (swapR f a b) x ↔ Ker r c f x := by
  have e : ∀ i, sm c (fun j => swapR f a b i j * x j) = sm c (fun j => f (if i = a then b else if i = b then a else i) j * x j) := fun i => sm_congr fun j _ => by
    simp only [swapR]
    by_cases e1 : i = a
    · simp only [if_pos e1]
    · by_cases e2 : i = b
      · simp only [if_neg e1, if_pos e2]
      · simp only [if_neg e1, if_neg e2]
  constructor
  · intro h i hi
    have := h (if i = a then b else if i = b then a else i) (by split; exact hb; split; exact ha; exact hi)
    rw [e] at this
    have e3 : (if (if i = a then b else if i = b then a else i) = a then b else if (if i = a then b else if i = b then a else i) = b then a else (if i = a then b else if i = b then a else i)) = i := by
      by_cases e1 : i = a
      · simp only [if_pos e1]; by_cases e2 : b = a
        · rw [if_pos e2]; omega
        · rw [if_neg e2]; simp [e1]
      · by_cases e2 : i = b
        · simp only [if_neg e1, if_pos e2]; simp [e2]
        · simp only [if_neg e1, if_neg e2]
    rw [e3] at this
    exact this
  · intro h i hi
    rw [e]
    exact h _ (by split; exact hb; split; exact ha; exact hi)
theorem ker_scale {r c d : Nat} {f : Mx} {x : Nat → F} {t : F} (ht : t ≠ 0) : Ker r c (scaleR f d t) x ↔ Ker r c f x := by
  have e : ∀ i, sm c (fun j => scaleR f d t i j * x j) = (if i = d then t else 1) * sm c (fun j => f i j * x j) := by
    intro i
    rw [← sm_mul]
    exact sm_congr fun j _ => by simp only [scaleR]; split <;> grind
  constructor
  · intro h i hi
    have := h i hi
    rw [e] at this
    rcases mul_zero_or this with h1 | h1
    · split at h1
      · exact absurd h1 ht
      · exact absurd h1.symm zero_ne_one
    · exact h1
  · intro h i hi; rw [e, h i hi]; grind
theorem ker_clear {r c d k : Nat} {f : Mx} {x : Nat → F} (hd : d < r) : Ker r c (clearR f d k) x ↔ Ker r c f x := by
  have e : ∀ i, i ≠ d → sm c (fun j => clearR f d k i j * x j) = sm c (fun j => f i j * x j) - f i k * sm c (fun j => f d j * x j) := by
    intro i hi
    rw [← sm_mul, ← sm_sub]
    exact sm_congr fun j _ => by simp only [clearR, if_neg hi]; grind
  have e0 : sm c (fun j => clearR f d k d j * x j) = sm c (fun j => f d j * x j) := sm_congr fun j _ => by simp [clearR]
  constructor
  · intro h i hi
    have hd' := h d hd
    rw [e0] at hd'
    by_cases e1 : i = d
    · rw [e1]; exact hd'
    · have := h i hi; rw [e i e1, hd'] at this; grind
  · intro h i hi
    by_cases e1 : i = d
    · rw [e1, e0]; exact h d hd
    · rw [e i e1, h i hi, h d hd]; grind
theorem ker_redR (r c : Nat) (f : Mx) (k : Nat) (x : Nat → F) : Ker r c (redR r f k).f x ↔ Ker r c f x := by
  induction k with
  | zero => exact Iff.rfl
  | succ k ih =>
    rw [redR_succ]
    rcases pivot_cases (redR r f k).f k (redR r f k).d r with ⟨n, h1, h2, _, h4⟩ | ⟨h1, h2⟩
    · rw [stepR_some h4]
      exact ((ker_clear (by omega)).trans ((ker_scale (finv_ne h2)).trans (ker_swap (by omega) h1))).trans ih
    · rw [stepR_none h2]; exact ih
/-- what is closed under combinations keeps holding of rows that are reduced -/
theorem rows_redR {P : (Nat → F) → Prop} (hP : ∀ u v (a b : F), P u → P v → P fun j => a * u j + b * v j) {r : Nat} {f : Mx} (h : ∀ i, i < r → P (f i)) (k : Nat) : ∀ i, i < r → P ((redR r f k).f i) := by
  have one : ∀ u v (a b : F) (w : Nat → F), P u → P v → (∀ j, w j = a * u j + b * v j) → P w := fun u v a b w hu hv e => by
    rw [show w = _ from funext e]; exact hP u v a b hu hv
  induction k with
  | zero => exact h
  | succ k ih =>
    rw [redR_succ]
    rcases pivot_cases (redR r f k).f k (redR r f k).d r with ⟨n, h1, h2, _, h4⟩ | ⟨h1, h2⟩
    · rw [stepR_some h4]
      generalize hg : (redR r f k).f = g at *
      generalize hd : (redR r f k).d = d at *
      have s1 : ∀ i, i < r → P (swapR g d (d + n) i) := by
        intro i hi
        by_cases e1 : i = d
        · refine one _ _ 1 0 _ (ih (d + n) h1) (ih i hi) fun j => ?_; simp only [swapR, if_pos e1]; grind
        · by_cases e2 : i = d + n
          · refine one _ _ 1 0 _ (ih d (by omega)) (ih i hi) fun j => ?_; simp only [swapR, if_neg e1, if_pos e2]; grind
          · refine one _ _ 1 0 _ (ih i hi) (ih i hi) fun j => ?_; simp only [swapR, if_neg e1, if_neg e2]; grind
      have s2 : ∀ i, i < r → P (scaleR (swapR g d (d + n)) d (finv (g (d + n) k)) i) := by
        intro i hi
        by_cases e1 : i = d
        · refine one _ _ (finv (g (d + n) k)) 0 _ (s1 i hi) (s1 i hi) fun j => ?_; simp only [scaleR, if_pos e1]; grind
        · refine one _ _ 1 0 _ (s1 i hi) (s1 i hi) fun j => ?_; simp only [scaleR, if_neg e1]; grind
      intro i hi
      by_cases e1 : i = d
      · refine one _ _ 1 0 _ (s2 i hi) (s2 i hi) fun j => ?_; simp only [clearR, if_pos e1]; grind
      · refine one _ _ 1 (-(scaleR (swapR g d (d + n)) d (finv (g (d + n) k)) i k)) _ (s2 i hi) (s2 d (by omega)) fun j => ?_; simp only [clearR, if_neg e1]; grind
    · rw [stepR_none h2]; exact ih

/-! vectors in the kernel of reduced rows -/
/-- the vector that says how a column is made of the columns of leading ones before it -/
def fvec (f : Mx) (d : Nat) (p : Nat → Nat) (k : Nat) : Nat → F := fun j => (if j = k then 1 else 0) - sm d (fun i => if j = p i then f i k else 0)
theorem sm_pick {c q : Nat} (hq : q < c) (g : Nat → F) (v : F) : sm c (fun j => g j * (if j = q then v else 0)) = g q * v := by
  rw [sm_one hq (fun j _ hne => by rw [if_neg hne]; grind)]; simp
theorem fvec_row {r c d : Nat} {f : Mx} {p : Nat → Nat} (h : Red r c f d p) {k : Nat} (hk : k < c) (g : Nat → F) : sm c (fun j => g j * fvec f d p k j) = g k - sm d (fun i => g (p i) * f i k) := by
  have e : ∀ j, g j * fvec f d p k j = g j * (if j = k then 1 else 0) - sm d (fun i => g j * (if j = p i then f i k else 0)) := fun j => by rw [sm_mul]; simp only [fvec]; grind
  rw [sm_congr fun j _ => e j, sm_sub, sm_pick hk, sm_comm]
  rw [sm_congr (f := fun i => sm c fun j => g j * (if j = p i then f i k else 0)) (fun i hi => sm_pick (h.lt i hi) g (f i k))]
  grind
theorem fvec_ker {r c d : Nat} {f : Mx} {p : Nat → Nat} (h : Red r c f d p) {k : Nat} (hk : k < c) : Ker r c f (fvec f d p k) := by
  intro a ha
  rw [fvec_row h hk]
  by_cases hd : a < d
  · rw [sm_one hd (fun i hi hne => by rw [h.col i a hi ha, if_neg (fun e => hne e.symm)]; grind), h.col a a hd ha]
    simp only [if_true]; grind
  · rw [h.rest a k (by omega) ha hk, sm_zero (fun i hi => by rw [h.col i a hi ha, if_neg (by omega)]; grind)]; grind
/-- at and behind a column without a leading one -/
theorem fvec_at {d : Nat} {f : Mx} {p : Nat → Nat} {k : Nat} (hk : ∀ i, i < d → p i ≠ k) : fvec f d p k k = 1 := by
  simp only [fvec, if_true]
  rw [sm_zero (fun i hi => by rw [if_neg (fun e => hk i hi e.symm)])]; grind
theorem fvec_after {r c d : Nat} {f : Mx} {p : Nat → Nat} (h : Red r c f d p) {k j : Nat} (hj : k < j) : fvec f d p k j = 0 := by
  simp only [fvec]
  rw [if_neg (by omega), sm_zero (fun i hi => ?_)]
  · grind
  · by_cases e : j = p i
    · rw [if_pos e]; exact h.left i k hi (by omega)
    · rw [if_neg e]
theorem sm_split (n m : Nat) (f : Nat → F) : sm (n + m) f = sm n f + sm m (fun i => f (n + i)) := by
  induction m with
  | zero => show sm n f = sm n f + 0; grind
  | succ m ih => rw [← Nat.add_assoc, sm_succ, ih, sm_succ]; grind
/-- a column of which the kernel says that it is made of those before it has no leading one -/
theorem not_lead {r c d : Nat} {f : Mx} {p : Nat → Nat} (h : Red r c f d p) {x : Nat → F} (hx : Ker r c f x) {k : Nat} (h1 : x k = 1) (h2 : ∀ j, k < j → j < c → x j = 0) : ∀ i, i < d → p i ≠ k := by
  intro i hi e
  have hk := h.lt i hi
  have := hx i (by have := h.le; omega)
  rw [sm_one (k := k) (by omega) (fun j hj hne => ?_)] at this
  · rw [← e, h.col i i hi (by have := h.le; omega)] at this
    rw [e, h1] at this
    simp only [if_true] at this
    exact zero_ne_one (by grind)
  · by_cases e2 : j < k
    · rw [h.left i j hi (by omega)]; grind
    · rw [h2 j (by omega) hj]; grind
/-- increasing places are told by the set that they make -/
theorem places_eq {d e : Nat} {p q : Nat → Nat} (hp : ∀ i j, i < j → j < d → p i < p j) (hq : ∀ i j, i < j → j < e → q i < q j)
    (h1 : ∀ i, i < d → ∃ j, j < e ∧ q j = p i) (h2 : ∀ i, i < e → ∃ j, j < d ∧ p j = q i) : d = e ∧ ∀ i, i < d → p i = q i := by
  have mono : ∀ (d : Nat) (p : Nat → Nat), (∀ i j, i < j → j < d → p i < p j) → ∀ i j, i < d → j < d → p i < p j → i < j := by
    intro d p hp i j hi hj h
    rcases Nat.lt_trichotomy i j with h' | h' | h'
    · exact h'
    · subst h'; omega
    · have := hp j i h' hi; omega
  have key : ∀ n, (∀ i, i < n → i < d → i < e ∧ p i = q i) := by
    intro n
    induction n with
    | zero => intro i h; omega
    | succ n ih =>
      intro i hi hd
      by_cases e1 : i < n
      · exact ih i e1 hd
      · have hin : i = n := by omega
        subst hin
        obtain ⟨j, hj, ej⟩ := h1 i hd
        -- j is not below i
        have hji : i ≤ j := by
          rcases Nat.lt_or_ge j i with h | h
          · have := ih j h (by omega); have := hp j i h hd; omega
          · exact h
        have hie : i < e := by omega
        obtain ⟨l, hl, el⟩ := h2 i hie
        have hli : i ≤ l := by
          rcases Nat.lt_or_ge l i with h | h
          · have := ih l h (by omega); have := hq l i h hie; omega
          · exact h
        refine ⟨hie, ?_⟩
        have a1 : q i ≤ q j := by rcases Nat.lt_or_ge i j with h | h; exact Nat.le_of_lt (hq i j h hj); have : i = j := by omega
                                  rw [this]; exact Nat.le_refl _
        have a2 : p i ≤ p l := by rcases Nat.lt_or_ge i l with h | h; exact Nat.le_of_lt (hp i l h hl); have : i = l := by omega
                                  rw [this]; exact Nat.le_refl _
        omega
  have hde : d ≤ e := by
    rcases Nat.lt_or_ge e d with h | h
    · have := key (e + 1) e (by omega) h; omega
    · exact h
  have hed : e ≤ d := by
    rcases Nat.lt_or_ge d e with h | h
    · obtain ⟨j, hj, ej⟩ := h2 d h
      have := key (j + 1) j (by omega) hj
      have := hq j d (by omega) h
      omega
    · exact h
  exact ⟨by omega, fun i hi => (key (i + 1) i (by omega) hi).2⟩
/-- reduced rows are told by their kernel -/
theorem red_unique {r r' c d e : Nat} {f g : Mx} {p q : Nat → Nat} (hf : Red r c f d p) (hg : Red r' c g e q) (hk : ∀ x, Ker r c f x ↔ Ker r' c g x) :
    d = e ∧ (∀ i, i < d → p i = q i) ∧ ∀ i j, i < d → j < c → f i j = g i j := by
  have side : ∀ {r r' d e : Nat} {f g : Mx} {p q : Nat → Nat}, Red r c f d p → Red r' c g e q → (∀ x, Ker r c f x ↔ Ker r' c g x) → ∀ i, i < e → ∃ j, j < d ∧ p j = q i := by
    intro r r' d e f g p q hf hg hk i hi
    by_cases h : ∃ j, j < d ∧ p j = q i
    · exact h
    · exfalso
      have hn : ∀ j, j < d → p j ≠ q i := fun j hj e => h ⟨j, hj, e⟩
      have h1 := fvec_ker hf (hg.lt i hi)
      exact not_lead hg ((hk _).1 h1) (fvec_at hn) (fun j hj _ => fvec_after hf hj) i hi rfl
  obtain ⟨h1, h2⟩ := places_eq hf.inc hg.inc (side hg hf fun x => (hk x).symm) (side hf hg hk)
  refine ⟨h1, h2, fun i j hi hj => ?_⟩
  have h3 := (hk _).1 (fvec_ker hf hj) i (by have := hg.le; omega)
  rw [fvec_row hf hj, sm_one hi (fun a ha hne => by rw [h2 a ha, hg.col a i (by omega) (by have := hg.le; omega), if_neg (fun e => hne e.symm)]; grind), h2 i hi, hg.col i i (by omega) (by have := hg.le; omega)] at h3
  simp only [if_true] at h3
  grind
/-- fewer rows than columns: a column without a leading one -/
theorem free_column {r c d : Nat} {f : Mx} {p : Nat → Nat} (h : Red r c f d p) (hd : d < c) : ∃ k, k < c ∧ ∀ i, i < d → p i ≠ k := by
  have ge : ∀ i, i < d → i ≤ p i := by
    intro i
    induction i with
    | zero => intro _; omega
    | succ i ih => intro hi; have := ih (by omega); have := h.inc i (i + 1) (by omega) hi; omega
  by_cases hall : ∀ i, i < d → p i = i
  · exact ⟨d, hd, fun i hi => by rw [hall i hi]; omega⟩
  · rcases least_cases (fun i => p i != i) d with ⟨k, h1, h2, h3, _⟩ | ⟨h1, _⟩
    · refine ⟨k, by omega, fun i hi e => ?_⟩
      have hk : p k ≠ k := by simpa using h2
      have hpk := ge k h1
      rcases Nat.lt_trichotomy i k with h' | h' | h'
      · have : p i = i := by simpa using h3 i h'
        omega
      · subst h'; exact hk e
      · have := h.inc k i h' hi; omega
    · exact absurd (fun i hi => by simpa using h1 i hi) hall
theorem ker_nonzero {r c : Nat} (f : Mx) (h : r < c) : ∃ x, Ker r c f x ∧ ∃ j, j < c ∧ x j ≠ 0 := by
  obtain ⟨p, hp⟩ := red_redR r f c
  obtain ⟨k, hk, hn⟩ := free_column hp (by have := (redR_d r f c).1; omega)
  exact ⟨_, (ker_redR r c f c _).1 (fvec_ker hp hk), k, hk, by rw [fvec_at hn]; exact fun e => zero_ne_one e.symm⟩
end Fus
