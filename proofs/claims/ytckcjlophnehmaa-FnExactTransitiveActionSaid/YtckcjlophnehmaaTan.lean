/- Transitive actions: what both sides answer. -/
import Derived.Test.YtckcjlophnehmaaTar
namespace Go.Proofs.Ytckcjlophnehmaa
open Go.RowKit
/-- the first k numbers lie below n and ascend -/
def okS (n : Nat) (hs : List Int) (k : Nat) : Prop := ∀ j x, j < k → hs[j]? = some x → 0 ≤ x ∧ x < n ∧ ∀ y, 0 < j → hs[j - 1]? = some y → y < x
theorem okS_zero (n : Nat) (hs : List Int) : okS n hs 0 := fun _ _ h => absurd h (Nat.not_lt_zero _)
theorem okS_next {n : Nat} {hs : List Int} {k : Nat} {x : Int} (h : okS n hs k) (hx : hs[k]? = some x) (h1 : 0 ≤ x) (h2 : x < n) (h3 : ∀ y, 0 < k → hs[k - 1]? = some y → y < x) : okS n hs (k + 1) := fun j z hj hz => by
  by_cases e : j = k
  · subst e
    rw [hx] at hz; cases hz
    exact ⟨h1, h2, h3⟩
  · exact h j z (by omega) hz
/-- as numbers -/
def zn (hs : List Int) : List Nat := hs.map Int.toNat
theorem zn_length (hs : List Int) : (zn hs).length = hs.length := by simp [zn]
theorem zi_zn {n : Nat} {hs : List Int} (h : okS n hs hs.length) : zi (zn hs) = hs := by
  unfold zi zn
  rw [List.map_map]
  refine (List.map_congr_left fun x hx => ?_).trans (List.map_id hs)
  obtain ⟨j, hj, e⟩ := List.mem_iff_getElem.1 hx
  have h1 := (h j x hj (by rw [List.getElem?_eq_getElem hj, e])).1
  show ((x.toNat : Nat) : Int) = x
  omega
theorem zn_lt {n : Nat} {hs : List Int} (h : okS n hs hs.length) : ∀ x ∈ zn hs, x < n := fun x hx => by
  obtain ⟨y, hy, rfl⟩ := List.mem_map.1 hx
  obtain ⟨j, hj, e⟩ := List.mem_iff_getElem.1 hy
  have h1 := h j y hj (by rw [List.getElem?_eq_getElem hj, e])
  omega
theorem okS_mono {n : Nat} {hs : List Int} (h : okS n hs hs.length) : ∀ d j x y, hs[j]? = some x → hs[j + (d + 1)]? = some y → x < y := by
  intro d
  induction d with
  | zero => exact fun j x y hx hy => (h (j + 1) y (List.getElem?_eq_some_iff.1 hy).1 hy).2.2 x (by omega) (by simpa using hx)
  | succ d ih =>
    intro j x y hx hy
    have hl := (List.getElem?_eq_some_iff.1 hy).1
    have hz : hs[j + (d + 1)]? = some hs[j + (d + 1)] := List.getElem?_eq_getElem (by omega)
    have h1 := ih j x _ hx hz
    have h2 := (h (j + (d + 1) + 1) y hl hy).2.2 hs[j + (d + 1)] (by omega) (by rw [Nat.add_sub_cancel]; exact hz)
    omega
theorem zn_nodup {n : Nat} {hs : List Int} (h : okS n hs hs.length) : (zn hs).Nodup := by
  rw [List.nodup_iff_pairwise_ne, List.pairwise_iff_getElem]
  intro i j hi hj hij
  have hi' : i < hs.length := by rw [zn_length] at hi; exact hi
  have hj' : j < hs.length := by rw [zn_length] at hj; exact hj
  have h1 := okS_mono h (j - i - 1) i hs[i] hs[j] (List.getElem?_eq_getElem hi') (by rw [show i + (j - i - 1 + 1) = j by omega]; exact List.getElem?_eq_getElem hj')
  have h2 := (h i hs[i] hi' (List.getElem?_eq_getElem hi')).1
  simp only [zn, List.getElem_map]
  omega
theorem gp_grp {xs : List Int} (hg : gOk xs = true) : Gp (ordN xs) (grpT xs) := by
  obtain ⟨_, h1, _, h3⟩ := gOk_true hg
  have h := gp_addI (m := ordM xs) (k := xs.length) (fun j hj => (ord_cells h1 j hj).2)
  rw [ordN_prod h1 h3] at h
  exact h
theorem sg_of {xs hs : List Int} (hg : gOk xs = true) (h : okS (ordN xs) hs hs.length) (hs2 : sgB (grpT xs) (zn hs) = true) (hne : zn hs ≠ []) : Sg (ordN xs) (grpT xs) (zn hs) := by
  refine ⟨gp_grp hg, zn_lt h, zn_nodup h, fun x hx y hy => ?_, hne⟩
  unfold sgB at hs2
  rw [List.all_eq_true] at hs2
  have h1 := hs2 x hx
  rw [List.all_eq_true] at h1
  simpa using h1 y hy
/-- closed and with 0, or closed and not empty: the same -/
theorem sg_zero {xs hs : List Int} (hg : gOk xs = true) (h : okS (ordN xs) hs hs.length) : (sgB (grpT xs) (zn hs) && (zn hs).contains 0) = (sgB (grpT xs) (zn hs) && !decide (hs.length = 0)) := by
  cases hb : sgB (grpT xs) (zn hs)
  · rfl
  · rw [Bool.true_and, Bool.true_and]
    by_cases e : hs.length = 0
    · have : zn hs = [] := List.length_eq_zero_iff.1 (by rw [zn_length]; exact e)
      rw [this, decide_eq_true e]; rfl
    · rw [decide_eq_false e]
      have hne : zn hs ≠ [] := fun h0 => e (by rw [← zn_length, h0]; rfl)
      have := (sg_of hg h hb hne).zero
      simpa using this
/-- the action's matrices -/
def actT (n : Nat) (g : Nat → Nat → Nat) (H : List Nat) (X : Nat) : List (List (List Int)) := vec X fun x => tab (cnt g H n) (cnt g H n) (actE n g H x)
open Classical in
noncomputable def traN (xs hs : List Int) : (List (List (List Int)) × List (List (List Int))) × Int :=
  if gOk xs = true then
    (if okS (ordN xs) hs hs.length then
      (if (sgB (grpT xs) (zn hs) && (zn hs).contains 0) = true then ((cub (ordN xs) (tabE (ordN xs) (grpT xs)), actT (ordN xs) (grpT xs) (zn hs) (ordN xs)), 0) else (([], []), 5))
    else (([], []), 2))
  else (([], []), 2)
end Go.Proofs.Ytckcjlophnehmaa
