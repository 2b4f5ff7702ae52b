/- Plain algebra over the field with 55441 elements: bases of kernels. No program in sight. -/
import Derived.Test.YtjjoicbgnchkdaaMdt
namespace Fus
/-! bases of kernels, as the programs make them -/
/-- the first place of a number other than 0 in row i, of c places -/
def ld (f : Mx) (c i : Nat) : Nat := (least (fun j => f i j != 0) c).getD 0
theorem ld_red {r c d : Nat} {f : Mx} {p : Nat → Nat} (h : Red r c f d p) {i : Nat} (hi : i < d) : ld f c i = p i ∧ least (fun j => f i j != 0) c = some (p i) := by
  have e : least (fun j => f i j != 0) c = some (p i) := least_some (h.lt i hi) (fun j hj => by simp [h.left i j hi hj]) (by
    have := h.col i i hi (by have := h.le; omega)
    rw [if_pos rfl] at this
    rw [this]; simp)
  exact ⟨by unfold ld; rw [e]; rfl, e⟩
theorem ld_one {r c d : Nat} {f : Mx} {p : Nat → Nat} (h : Red r c f d p) {i : Nat} (hi : i < d) : least (fun j => f i j == 1) c = some (p i) :=
  least_some (h.lt i hi) (fun j hj => by rw [h.left i j hi hj]; simp) (by
    have := h.col i i hi (by have := h.le; omega)
    rw [if_pos rfl] at this
    rw [this]; simp)
/-- is no leading number of the first d rows in column k -/
def isFree (f : Mx) (c d k : Nat) : Bool := (List.range d).all fun i => ld f c i != k
theorem isFree_iff {f : Mx} {c d k : Nat} : isFree f c d k = true ↔ ∀ i, i < d → ld f c i ≠ k := by
  simp [isFree]
/-- the columns without leading numbers, below n -/
def frees (f : Mx) (c d n : Nat) : List Nat := (List.range n).filter (isFree f c d)
theorem frees_succ (f : Mx) (c d n : Nat) : frees f c d (n + 1) = frees f c d n ++ (if isFree f c d n then [n] else []) := by
  unfold frees; rw [List.range_succ, List.filter_append]; congr 1
  by_cases h : isFree f c d n <;> simp [h]
theorem frees_lt {f : Mx} {c d n k : Nat} (h : k ∈ frees f c d n) : k < n ∧ isFree f c d k = true := by
  unfold frees at h; rw [List.mem_filter] at h; exact ⟨List.mem_range.1 h.1, h.2⟩
/-- the vectors of the free columns -/
def freeRows (f : Mx) (c d : Nat) : Mx := fun i => fvec f d (ld f c) ((frees f c d c).getD i 0)
/-- the reduced basis of the kernel of r rows with c columns -/
def kerR (r c : Nat) (f : Mx) : RS :=
  let s := redR r f c
  redR (frees s.f c s.d c).length (freeRows s.f c s.d) c

theorem count_free {f : Mx} {c : Nat} {p : Nat → Nat} : ∀ (n d : Nat), (∀ i, i < d → p i < n) → (∀ i j, i < j → j < d → p i < p j) → (∀ i, i < d → ld f c i = p i) → (frees f c d n).length + d = n := by
  intro n
  induction n with
  | zero =>
    intro d h1 _ _
    have hd : d = 0 := by
      rcases Nat.eq_zero_or_pos d with h | h
      · exact h
      · have := h1 0 h; omega
    subst hd; rfl
  | succ n ih =>
    intro d h1 h2 h3
    rw [frees_succ, List.length_append]
    by_cases hl : 0 < d ∧ p (d - 1) = n
    · have hf : isFree f c d n = false := by
        cases h : isFree f c d n
        · rfl
        · exact absurd ((h3 _ (by omega)).trans hl.2) (isFree_iff.1 h (d - 1) (by omega))
      have hsame : frees f c d n = frees f c (d - 1) n := by
        unfold frees
        refine List.filter_congr fun k hk => ?_
        have hk' := List.mem_range.1 hk
        rw [Bool.eq_iff_iff, isFree_iff, isFree_iff]
        refine ⟨fun h i hi => h i (by omega), fun h i hi => ?_⟩
        by_cases e : i = d - 1
        · rw [e, h3 _ (by omega), hl.2]; omega
        · exact h i (by omega)
      have := ih (d - 1) (fun i hi => by have := h2 i (d - 1) (by omega) (by omega); omega) (fun i j hi hj => h2 i j hi (by omega)) (fun i hi => h3 i (by omega))
      rw [hsame, hf]; simp; omega
    · have hall : ∀ i, i < d → p i < n := fun i hi => by
        have := h1 i hi
        by_cases e : p i = n
        · exfalso
          have : i = d - 1 := by
            rcases Nat.lt_or_ge i (d - 1) with h | h
            · have := h2 i (d - 1) h (by omega); have := h1 (d - 1) (by omega); omega
            · omega
          exact hl ⟨by omega, by rw [← this]; exact e⟩
        · omega
      have hf : isFree f c d n = true := isFree_iff.2 fun i hi => by rw [h3 i hi]; have := hall i hi; omega
      have := ih d hall h2 h3
      rw [hf]; simp; omega
/-- rank and kernel have together as many vectors as there are columns; the free vectors are independent -/
theorem fvec_ld {r c d : Nat} {f : Mx} {p : Nat → Nat} (h : Red r c f d p) (k j : Nat) : fvec f d (ld f c) k j = fvec f d p k j := by
  simp only [fvec]; rw [sm_congr fun i hi => by rw [(ld_red h hi).1]]
theorem red_ld {r c d : Nat} {f : Mx} {p : Nat → Nat} (h : Red r c f d p) : Red r c f d (ld f c) := by
  refine ⟨h.le, fun i hi => ?_, fun i j hij hj => ?_, fun i a hi ha => ?_, fun i j hi hj => ?_, h.rest⟩
  · rw [(ld_red h hi).1]; exact h.lt i hi
  · rw [(ld_red h (show i < d by omega)).1, (ld_red h hj).1]; exact h.inc i j hij hj
  · rw [(ld_red h hi).1]; exact h.col i a hi ha
  · rw [(ld_red h hi).1] at hj; exact h.left i j hi hj
theorem fvec_free {f : Mx} {c d k j : Nat} (hj : isFree f c d j = true) : fvec f d (ld f c) k j = if j = k then 1 else 0 := by
  simp only [fvec]
  rw [sm_zero (fun i hi => by rw [if_neg (fun e => isFree_iff.1 hj i hi e.symm)])]
  grind
theorem frees_inj {f : Mx} {c d n i j : Nat} (hi : i < (frees f c d n).length) (hj : j < (frees f c d n).length) (h : (frees f c d n).getD i 0 = (frees f c d n).getD j 0) : i = j := by
  have hn : (frees f c d n).Nodup := List.Pairwise.sublist List.filter_sublist List.nodup_range
  rw [List.getD_eq_getElem?_getD, List.getD_eq_getElem?_getD, List.getElem?_eq_getElem hi, List.getElem?_eq_getElem hj] at h
  exact (List.getElem_inj (h₀ := hi) (h₁ := hj) hn).1 h
theorem frees_at {f : Mx} {c d n i : Nat} (hi : i < (frees f c d n).length) : (frees f c d n).getD i 0 < n ∧ isFree f c d ((frees f c d n).getD i 0) = true := by
  refine frees_lt ?_
  rw [List.getD_eq_getElem?_getD, List.getElem?_eq_getElem hi]
  exact List.getElem_mem hi
theorem kerR_full (r c : Nat) (f : Mx) : (kerR r c f).d = (frees (redR r f c).f c (redR r f c).d c).length := by
  obtain ⟨p, hp0⟩ := red_redR r f c
  have hp := red_ld hp0
  show (redR (frees (redR r f c).f c (redR r f c).d c).length (freeRows (redR r f c).f c (redR r f c).d) c).d = _
  generalize (redR r f c).f = g at *
  generalize (redR r f c).d = d at *
  generalize hm : (frees g c d c).length = m
  rcases Nat.lt_or_ge (redR m (freeRows g c d) c).d m with h | h
  · exfalso
    -- fewer equations than unknowns
    obtain ⟨y, hy, l, hl, hne⟩ := ker_nonzero (fun i l => (redR m (freeRows g c d) c).f i ((frees g c d c).getD l 0)) h
    obtain ⟨q, hq⟩ := red_redR m (freeRows g c d) c
    let x : Nat → F := fun j => sm m fun l => if j = (frees g c d c).getD l 0 then y l else 0
    have pick : ∀ v : Nat → F, sm c (fun j => v j * x j) = sm m fun l => v ((frees g c d c).getD l 0) * y l := fun v => by
      have e : ∀ j, v j * x j = sm m fun l => v j * (if j = (frees g c d c).getD l 0 then y l else 0) := fun j => (sm_mul _ _ _).symm
      rw [sm_congr fun j _ => e j, sm_comm]
      exact sm_congr fun l hl => sm_pick (frees_at (by omega)).1 _ _
    have hx : Ker m c (redR m (freeRows g c d) c).f x := fun i hi => by
      rcases Nat.lt_or_ge i (redR m (freeRows g c d) c).d with h1 | h1
      · rw [pick]; exact hy i h1
      · exact sm_zero fun j hj => by rw [hq.rest i j h1 hi hj]; grind
    have := (ker_redR m c (freeRows g c d) c x).1 hx l hl
    rw [pick, sm_one hl (fun l' hl' hne' => ?_)] at this
    · have e : freeRows g c d l ((frees g c d c).getD l 0) = 1 := by
        show fvec g d (ld g c) _ _ = 1
        rw [fvec_free (frees_at (by omega)).2, if_pos rfl]
      rw [e] at this
      exact hne (by grind)
    · have e : freeRows g c d l ((frees g c d c).getD l' 0) = 0 := by
        show fvec g d (ld g c) _ _ = 0
        rw [fvec_free (frees_at (by omega)).2, if_neg (fun e => hne' (frees_inj (by omega) (by omega) e))]
      rw [e]; grind
  · have := (redR_d m (freeRows g c d) c).1
    omega
theorem rank_nullity (r c : Nat) (f : Mx) : (redR r f c).d + (kerR r c f).d = c := by
  rw [kerR_full]
  obtain ⟨p, hp⟩ := red_redR r f c
  have := count_free (f := (redR r f c).f) (c := c) c (redR r f c).d hp.lt hp.inc (fun i hi => (ld_red hp hi).1)
  omega
theorem ker_comb {r c : Nat} {f : Mx} : ∀ u v (a b : F), Ker r c f u → Ker r c f v → Ker r c f fun j => a * u j + b * v j := by
  intro u v a b hu hv i hi
  have e : sm c (fun j => f i j * (a * u j + b * v j)) = a * sm c (fun j => f i j * u j) + b * sm c (fun j => f i j * v j) := by
    rw [← sm_mul, ← sm_mul, ← sm_add]; exact sm_congr fun j _ => by grind
  rw [e, hu i hi, hv i hi]; grind
/-- the vectors of the basis lie in the kernel -/
theorem kerR_ker (r c : Nat) (f : Mx) {i : Nat} (hi : i < (kerR r c f).d) : Ker r c f ((kerR r c f).f i) := by
  obtain ⟨p, hp0⟩ := red_redR r f c
  have hp := red_ld hp0
  have h := rows_redR (P := Ker r c f) ker_comb (r := (frees (redR r f c).f c (redR r f c).d c).length) (f := freeRows (redR r f c).f c (redR r f c).d) (fun i hi => (ker_redR r c f c _).1 (fvec_ker hp (frees_at hi).1)) c
  exact h i (by rw [kerR_full] at hi; exact hi)
/-- the basis is told by the kernel -/
theorem kerR_unique {r r' c : Nat} {f g : Mx} (h : ∀ x, Ker r c f x ↔ Ker r' c g x) : (kerR r c f).d = (kerR r' c g).d ∧ ∀ i j, i < (kerR r c f).d → j < c → (kerR r c f).f i j = (kerR r' c g).f i j := by
  obtain ⟨p, hp⟩ := red_redR r f c
  obtain ⟨q, hq⟩ := red_redR r' g c
  obtain ⟨h1, _, h3⟩ := red_unique hp hq (fun x => (ker_redR r c f c x).trans ((h x).trans (ker_redR r' c g c x).symm))
  have hld : ∀ i, i < (redR r f c).d → ld (redR r f c).f c i = ld (redR r' g c).f c i := fun i hi => by
    unfold ld
    congr 1
    have : ∀ n, n ≤ c → least (fun j => (redR r f c).f i j != 0) n = least (fun j => (redR r' g c).f i j != 0) n := by
      intro n
      induction n with
      | zero => intro _; rfl
      | succ n ih => intro hn; simp only [least, ih (by omega), h3 i n hi (by omega)]
    exact this c (Nat.le_refl _)
  have hfr : frees (redR r f c).f c (redR r f c).d c = frees (redR r' g c).f c (redR r' g c).d c := by
    unfold frees
    refine List.filter_congr fun k _ => ?_
    rw [Bool.eq_iff_iff, isFree_iff, isFree_iff, ← h1]
    exact ⟨fun h i hi => by rw [← hld i hi]; exact h i hi, fun h i hi => by rw [hld i hi]; exact h i hi⟩
  have hrow : ∀ i j, i < (frees (redR r f c).f c (redR r f c).d c).length → freeRows (redR r f c).f c (redR r f c).d i j = freeRows (redR r' g c).f c (redR r' g c).d i j := by
    intro i j hi
    simp only [freeRows, fvec]
    rw [← hfr, ← h1]
    congr 1
    exact sm_congr fun a ha => by rw [hld a ha, h3 a _ ha (frees_at hi).1]
  obtain ⟨p', hp'⟩ := red_redR (frees (redR r f c).f c (redR r f c).d c).length (freeRows (redR r f c).f c (redR r f c).d) c
  obtain ⟨q', hq'⟩ := red_redR (frees (redR r' g c).f c (redR r' g c).d c).length (freeRows (redR r' g c).f c (redR r' g c).d) c
  obtain ⟨k1, _, k3⟩ := red_unique hp' hq' (fun x => by
    rw [ker_redR, ker_redR]
    rw [← hfr]
    exact ⟨fun h i hi => by rw [← h i hi]; exact sm_congr fun j _ => by rw [hrow i j hi], fun h i hi => by rw [← h i hi]; exact sm_congr fun j _ => by rw [hrow i j hi]⟩)
  exact ⟨k1, k3⟩
end Fus
