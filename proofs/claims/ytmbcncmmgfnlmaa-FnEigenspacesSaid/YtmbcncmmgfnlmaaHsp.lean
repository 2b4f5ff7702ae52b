/- Tables on the way to the form of Hessenberg, as the reference makes them; polynomials of the upper left parts. No walk. -/
import Derived.Test.YtmbcncmmgfnlmaaDtw
import Derived.Test.YtmbcncmmgfnlmaaAlg
namespace Go.Proofs.Ytmbcncmmgfnlmaa
open Go.RowKit
open Fus (F Mx toI ofI toI_bd toI_of ofI_toI ofI_neg ofI_mul finv setR swapR swapC simI elimH hstep hess pivot pivot_cases prd hp hp_new hp_same hp_deg hpoly sm sm_head)

theorem hstep_none {n k : Nat} {h : Mx} (hz : ∀ i, k + 1 ≤ i → i < n → h i k = 0) : hstep n k h = h := by
  unfold hstep
  rcases pivot_cases h k (k + 1) n with ⟨m, h1, h2, _, _⟩ | ⟨_, h2⟩
  · exact absurd (hz _ (by omega) h1) h2
  · rw [h2]
theorem hstep_some {n k p : Nat} {h : Mx} (hp : k + 1 ≤ p) (hpn : p < n) (hne : h p k ≠ 0) (hz : ∀ i, k + 1 ≤ i → i < p → h i k = 0) :
    hstep n k h = elimH (swapC (swapR h (k + 1) p) (k + 1) p) k (finv (swapC (swapR h (k + 1) p) (k + 1) p (k + 1) k)) (n - (k + 2)) := by
  unfold hstep
  rcases pivot_cases h k (k + 1) n with ⟨m, h1, h2, h3, h4⟩ | ⟨h1, _⟩
  · have e : k + 1 + m = p := by
      rcases Nat.lt_trichotomy (k + 1 + m) p with h | h | h
      · exact absurd (hz _ (by omega) h) h2
      · exact h
      · have := h3 (p - (k + 1)) (by omega)
        rw [show k + 1 + (p - (k + 1)) = p from by omega] at this
        exact absurd this hne
    rw [h4]
    simp only
    rw [e]
  · exact absurd (h1 p hp hpn) hne
theorem swapC_own (f : Mx) (d : Nat) : swapC f d d = f := by
  funext i j
  simp only [swapC]
  split
  · rename_i e; rw [e]
  · rfl
/-- the columns are exchanged in the first rows -/
def colTo (f : Mx) (a b m : Nat) : Mx := fun i j => if i < m then swapC f a b i j else f i j
theorem colTo_zero (n : Nat) (f : Mx) (a b : Nat) : tabF n n (colTo f a b 0) = tabF n n f := tabF_congr fun i j _ _ => by simp [colTo]
theorem colTo_end (n : Nat) (f : Mx) (a b : Nat) : tabF n n (colTo f a b n) = tabF n n (swapC f a b) := tabF_congr fun i j hi _ => by simp [colTo, hi]
theorem colTo_row (f : Mx) (a b m : Nat) : colTo f a b m m = f m := by funext j; simp [colTo]
theorem colTo_next (n : Nat) (f : Mx) (a b m : Nat) : (tabF n n (colTo f a b m)).set m (((zl n (f m)).set b (toI (f m a))).set a (toI (f m b))) = tabF n n (colTo f a b (m + 1)) := by
  rw [zl_set, zl_set, tabF_set]
  refine tabF_congr fun i j _ _ => ?_
  simp only [setR, colTo, swapC]
  by_cases e : i = m
  · subst e
    simp only [if_true, if_pos (show i < i + 1 from by omega)]
  · simp only [if_neg e]
    by_cases e2 : i < m
    · simp only [if_pos e2, if_pos (show i < m + 1 from by omega)]
    · simp only [if_neg e2, if_neg (show ¬ i < m + 1 from by omega)]
/-- column p plus c times column i, in the first rows -/
def simTo (h : Mx) (p i : Nat) (c : F) (m : Nat) : Mx := fun a b => if a < m ∧ b = p then h a b + c * h a i else h a b
theorem simTo_zero (n : Nat) (h : Mx) (p i : Nat) (c : F) : tabF n n (simTo h p i c 0) = tabF n n h := tabF_congr fun a b _ _ => by simp [simTo]
theorem simTo_row (h : Mx) (p i : Nat) (c : F) (m : Nat) : simTo h p i c m m = h m := by funext b; simp [simTo]
theorem simTo_next (n : Nat) (h : Mx) (p i : Nat) (c : F) (m : Nat) : (tabF n n (simTo h p i c m)).set m ((zl n (h m)).set p (toI (h m p + c * h m i))) = tabF n n (simTo h p i c (m + 1)) := by
  rw [zl_set, tabF_set]
  refine tabF_congr fun a b _ _ => ?_
  simp only [setR, simTo]
  by_cases e : a = m
  · subst e
    rw [if_pos rfl]
    by_cases e2 : b = p
    · rw [if_pos e2, if_pos ⟨by omega, e2⟩, e2]
    · rw [if_neg e2, if_neg (fun h => e2 h.2)]
  · rw [if_neg e]
    by_cases e2 : a < m ∧ b = p
    · rw [if_pos e2, if_pos ⟨by omega, e2.2⟩]
    · rw [if_neg e2, if_neg (fun h => e2 ⟨by omega, h.2⟩)]
/-- row i less c times row p -/
def rowed (E : Mx) (p i : Nat) (c : F) : Mx := setR E i fun j => E i j + -c * E p j
theorem rowed_set (n : Nat) (E : Mx) (p i : Nat) (c : F) : (tabF n n E).set i (zl n fun j => E i j + -c * E p j) = tabF n n (rowed E p i c) := tabF_set _ _
theorem simTo_end (n : Nat) (E : Mx) (p i : Nat) (c : F) : tabF n n (simTo (rowed E p i c) p i c n) = tabF n n (simI E p i c) := tabF_congr fun a b ha _ => by
  simp only [simTo, simI, rowed, setR, ha, true_and]
theorem elim_next (n : Nat) (G : Mx) (k : Nat) (v : F) (m : Nat) : tabF n n (simI (elimH G k v m) (k + 1) (k + 2 + m) (elimH G k v m (k + 2 + m) k * v)) = tabF n n (elimH G k v (m + 1)) := rfl
theorem OwnM.storeK {w : World} {B g n cap k gk m ck i : Nat} {xss : List (List Int)} {xs : List Int} {y : Int} (h : OwnM w B (.slice (some ⟨g, 0, none⟩) n cap) xss)
    (hc : w.cell? ⟨g, k, none⟩ = some (.slice (some ⟨gk, 0, none⟩) m ck)) (hx : xss[k]? = some xs) (hy : xs[i]? = some y) (x : Int) : OwnM (w.setCell ⟨gk, i, none⟩ (vi x)) B (.slice (some ⟨g, 0, none⟩) n cap) (xss.set k (xs.set i x)) := by
  obtain ⟨gk', ck', e1, _, _, _, _, e6, _⟩ := h.entryI hx hy
  rw [hc] at e1
  cases e1
  exact e6 x
theorem zl_get {n k : Nat} {f : Nat → F} (h : k < n) : ((zl n f).map vi)[k]? = some (vi (toI (f k))) := by rw [List.getElem?_map, zl_at _ h]; rfl

/-! the polynomials of the upper left parts -/
theorem prd_head (h : Mx) (i m : Nat) : prd h i (m + 1) = prd h (i + 1) m * h (i + 1) i := by
  induction m with
  | zero => show (1 : F) * h (i + 0 + 1) (i + 0) = 1 * h (i + 1) i; rfl
  | succ m ih =>
    show prd h i (m + 1) * h (i + (m + 1) + 1) (i + (m + 1)) = prd h (i + 1) m * h (i + 1 + m + 1) (i + 1 + m) * h (i + 1) i
    rw [ih, show i + (m + 1) = i + 1 + m from by omega]; grind
/-- what is subtracted from place r on -/
def hpart (h : Mx) (k l r : Nat) : F := sm (k - r) fun t => prd h (r + t) (k - (r + t)) * h (r + t) k * hp h (r + t) (r + t) l
theorem hpart_top (h : Mx) (k l : Nat) : hpart h k l k = 0 := by unfold hpart; rw [Nat.sub_self]; rfl
theorem hpart_step (h : Mx) (k l : Nat) {r : Nat} (hr : r < k) : hpart h k l r = prd h r (k - r) * h r k * hp h r r l + hpart h k l (r + 1) := by
  unfold hpart
  obtain ⟨d, hd⟩ : ∃ d, k - r = d + 1 := ⟨k - r - 1, by omega⟩
  rw [hd, sm_head, show k - (r + 1) = d from by omega]
  congr 1
  · simp only [Nat.add_zero, hd]
  · exact Fus.sm_congr fun t _ => by rw [show r + (t + 1) = r + 1 + t from by omega]
/-- the next polynomial when all places from r on are done -/
def nextTo (h : Mx) (k r : Nat) : Nat → F := fun l => (if l = 0 then 0 else hp h k k (l - 1)) + -(h k k) * hp h k k l - hpart h k l r
theorem nextTo_top (h : Mx) (k l : Nat) : nextTo h k k l = (if l = 0 then 0 else hp h k k (l - 1)) + -(h k k) * hp h k k l := by unfold nextTo; rw [hpart_top]; grind
theorem nextTo_step (h : Mx) (k l : Nat) {r : Nat} (hr : r < k) : nextTo h k (r + 1) l + -(prd h r (k - r) * h r k) * hp h r r l = nextTo h k r l := by
  unfold nextTo; rw [hpart_step h k l hr]; grind
theorem nextTo_end (h : Mx) (k l : Nat) : nextTo h k 0 l = hp h (k + 1) (k + 1) l := by
  unfold nextTo hpart
  rw [hp_new]
  have e : (sm (k - 0) fun t => prd h (0 + t) (k - (0 + t)) * h (0 + t) k * hp h (0 + t) (0 + t) l) = sm k fun i => prd h i (k - i) * h i k * hp h k i l := by
    rw [Nat.sub_zero]
    exact Fus.sm_congr fun i hi => by rw [Nat.zero_add, hp_same h (by omega : i ≤ k)]
  rw [e]; grind
/-- the rows of the list -/
def hpL (h : Mx) (k : Nat) : List (List Int) := vec (k + 1) fun i => zl (i + 1) (hp h i i)
theorem hpL_at (h : Mx) {k i : Nat} (hi : i ≤ k) : (hpL h k)[i]? = some (zl (i + 1) (hp h i i)) := vec_at _ (by omega)
theorem hpL_next (h : Mx) (k : Nat) : hpL h (k + 1) = hpL h k ++ [zl (k + 2) (hp h (k + 1) (k + 1))] := vec_snoc _ _
theorem hpL_length (h : Mx) (k : Nat) : (hpL h k).length = k + 1 := vec_length _ _
theorem zl_zeros {n m : Nat} {f : Nat → F} (hf : ∀ l, n ≤ l → f l = 0) : zl n f ++ List.replicate m 0 = zl (n + m) f := by
  induction m with
  | zero => rw [List.replicate_zero, List.append_nil]; rfl
  | succ m ih => rw [List.replicate_succ', ← List.append_assoc, ih, ← Nat.add_assoc, zl_snoc, hf (n + m) (by omega), Fus.toI_zero]
theorem zl_shift (n : Nat) (f : Nat → F) : [(0 : Int)] ++ zl n f = zl (n + 1) fun l => if l = 0 then 0 else f (l - 1) := by
  induction n with
  | zero => show [(0 : Int)] ++ [] = _; rw [zl_snoc]; show _ = [] ++ [toI (if 0 = 0 then 0 else _)]; rw [if_pos rfl, Fus.toI_zero]; rfl
  | succ n ih => rw [zl_snoc n f, ← List.append_assoc, ih, zl_snoc (n + 1)]; show _ = _ ++ [toI (if n + 1 = 0 then 0 else f (n + 1 - 1))]; rw [if_neg (by omega)]; rfl
end Go.Proofs.Ytmbcncmmgfnlmaa
