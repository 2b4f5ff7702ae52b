/- What eigenspaces, eigenvalues and common spaces of tables are: the plain part of the law FnEigenspaces. No walk. -/
import Derived.Test.YtmbcncmmgfnlmaaMlf
import Derived.Test.YtmbcncmmgfnlmaaMip
import Derived.Test.YtmbcncmmgfnlmaaDia
import Derived.Test.YtmbcncmmgfnlmaaCms
namespace Go.Proofs.Ytmbcncmmgfnlmaa
open Go.RowKit
open Fus (F Mx toI ofI toI_bd toI_of toI_ofI ofI_toI sm sm_congr sm_sub sm_one ap D D_congr D_neg xz chi chi_hpoly ev hpoly rts rts_mem rts_length fnat fnat_eq kerR kerR_zero kerR_ker Ker stk ker_stk)
attribute [local irreducible] Fus.rts Fus.fnat

theorem less_ap {n : Nat} {f : Mx} {t : F} {x : Nat → F} {i : Nat} (hi : i < n) : sm n (fun j => lessF f t i j * x j) = ap n f x i - t * x i := by
  have e : sm n (fun j => if j = i then t * x i else 0) = t * x i := (sm_one hi fun j _ h => if_neg h).trans (if_pos rfl)
  rw [← e]
  unfold ap
  rw [← sm_sub]
  refine sm_congr fun j _ => ?_
  unfold lessF
  by_cases h : i = j
  · subst h
    rw [if_pos rfl, if_pos rfl]; grind
  · rw [if_neg h, if_neg (fun e => h e.symm)]; grind
theorem ker_less {n : Nat} {f : Mx} {t : F} {x : Nat → F} (h : Ker n n (lessF f t) x) : zl n (ap n f x) = zl n fun j => 0 + t * x j :=
  zl_congr fun j hj => by
    have h := h j hj
    rw [less_ap hj] at h
    grind
theorem less_zero {n : Nat} (hn : 1 ≤ n) (f : Mx) (t : F) : D n (lessF f t) = 0 ↔ ev (n + 1) (hpoly n f) t = 0 := by
  rw [← chi_hpoly hn f t]
  unfold chi
  have e : D n (xz f t) = D n fun i j => - lessF f t i j := D_congr fun i j _ _ => by
    unfold xz lessF
    by_cases h : i = j
    · rw [if_pos h, if_pos h]; grind
    · rw [if_neg h, if_neg h]; grind
  rw [e, D_neg]
  split
  · exact Iff.rfl
  · constructor
    · intro h; rw [h]; grind
    · intro h; grind
theorem val_mem {n : Nat} (hn : 1 ≤ n) {f : Mx} {t : F} : toI t ∈ rts (n + 1) (hpoly n f) 55441 ↔ (kerR n n (lessF f t)).d ≠ 0 := by
  rw [rts_mem, Ne, kerR_zero]
  constructor
  · rintro ⟨j, _, he, hev⟩ hD
    have hj : t.val = j := by unfold toI at he; omega
    rw [fnat_eq hj] at hev
    exact hD ((less_zero hn f t).2 hev)
  · intro h
    refine ⟨t.val, t.isLt, by unfold toI; rfl, ?_⟩
    rw [fnat_eq rfl]
    exact (less_zero hn f t).1 (Classical.byContradiction h)
theorem eig_each {n : Nat} {m : List (List Int)} (hs : sqCode m true = 0) (hn : m.length = n) {y : Int} (h : y ∈ rts (n + 1) (hpoly n (entF m)) 55441) :
    ∃ (s : Nat) (g : Mx), s = (kerR n n (lessF (entF m) (ofI y))).d ∧ eigN m y = (tabF s n g, 0) ∧ 0 < s ∧ s ≤ 16 := by
  subst hn
  have hr := sq_rows hs
  have hy := rts_bd (by decide) h
  have hy2 : toI (ofI y) = y := by rw [toI_ofI]; omega
  have hd : (kerR m.length m.length (lessF (entF m) (ofI y))).d ≠ 0 := (val_mem hr.1).1 (by rw [hy2]; exact h)
  refine ⟨_, (kerR m.length m.length (lessF (entF m) (ofI y))).f, rfl, ?_, by omega, by have := kerR_le m.length m.length (lessF (entF m) (ofI y)); omega⟩
  unfold eigN
  rw [isNum_yes hy.1 hy.2, if_pos hs, if_neg hd]
  rfl
theorem eig_forms {m : List (List Int)} {x : Int} {sp : List (List Int)} {vals : List Int} {dg : Bool} {c1 c2 c3 : Int} (h1 : eigN m x = (sp, c1)) (h2 : valsN m = (vals, c2)) (h3 : diaN m = (dg, c3)) :
    (c1 ≠ 0 ∧ c1 ≠ 4) ∨ ((c1 = 0 ∨ c1 = 4) ∧ c2 = 0 ∧ c3 = 0 ∧ ∃ (n : Nat) (f : Mx) (t : F) (s : Nat) (g : Mx), m = tabF n n f ∧ Sz n ∧ x = toI t ∧ decide (x ∈ vals) = (c1 == 0) ∧ sp = tabF s n g ∧ s ≤ 16 ∧
      (∀ i, i < s → zl n (ap n f (g i)) = zl n fun j => 0 + t * g i j) ∧ dg = ((dsum n f vals vals.length : Int) == (n : Int)) ∧ vals.length ≤ 55441 ∧
      (∀ (k : Nat) (y : Int), vals[k]? = some y → ∃ (s' : Nat) (g' : Mx), eigN m y = (tabF s' n g', 0) ∧ 0 < s' ∧ s' ≤ 16 ∧ dsum n f vals (k + 1) = dsum n f vals k + s')) := by
  by_cases h : sqCode m (isNum x) = 0
  · right
    have hx := isNum_true (sq_parts h).2.2
    have hs : sqCode m true = 0 := by rw [← (sq_parts h).2.2]; exact h
    have hr := sq_rows h
    have ht : toI (ofI x) = x := by rw [toI_ofI]; omega
    unfold eigN at h1
    rw [if_pos h] at h1
    unfold valsN at h2
    rw [if_pos hs] at h2
    unfold diaN at h3
    rw [if_pos hs] at h3
    have hvm := val_mem (n := m.length) hr.1 (f := entF m) (t := ofI x)
    rw [ht] at hvm
    have each : ∀ (k : Nat) (y : Int), vals[k]? = some y → ∃ (s' : Nat) (g' : Mx), eigN m y = (tabF s' m.length g', 0) ∧ 0 < s' ∧ s' ≤ 16 ∧ dsum m.length (entF m) vals (k + 1) = dsum m.length (entF m) vals k + s' := fun k y hk => by
      have hy : y ∈ rts (m.length + 1) (hpoly m.length (entF m)) 55441 := by
        rw [show rts (m.length + 1) (hpoly m.length (entF m)) 55441 = vals from congrArg Prod.fst h2]; exact List.mem_of_getElem? hk
      obtain ⟨s, g, hsd, he, h0, hl⟩ := eig_each hs rfl hy
      exact ⟨s, g, he, h0, hl, by rw [hsd]; exact dsum_next hk⟩
    have hc2 : c2 = 0 := (congrArg Prod.snd h2).symm
    have hc3 : c3 = 0 := (congrArg Prod.snd h3).symm
    have hdg : dg = ((dsum m.length (entF m) vals vals.length : Int) == (m.length : Int)) := by
      rw [← show ((diaS m.length (entF m) : Int) == (m.length : Int)) = dg from congrArg Prod.fst h3]
      unfold diaS
      rw [show rts (m.length + 1) (hpoly m.length (entF m)) 55441 = vals from congrArg Prod.fst h2]
    have hvl : vals.length ≤ 55441 := by
      rw [← show rts (m.length + 1) (hpoly m.length (entF m)) 55441 = vals from congrArg Prod.fst h2]
      exact rts_length _ _ _
    rw [show rts (m.length + 1) (hpoly m.length (entF m)) 55441 = vals from congrArg Prod.fst h2] at hvm
    by_cases hd : (kerR m.length m.length (lessF (entF m) (ofI x))).d = 0
    · rw [if_pos hd] at h1
      have hc1 : c1 = 4 := (congrArg Prod.snd h1).symm
      have hsp : sp = [] := (congrArg Prod.fst h1).symm
      refine ⟨.inr hc1, hc2, hc3, m.length, entF m, ofI x, 0, fun _ _ => 0, sqFe h, ⟨hr.1, hr.2.1⟩, ht.symm, ?_, hsp, by omega, fun i hi => absurd hi (Nat.not_lt_zero _), hdg, hvl, each⟩
      rw [hc1]
      exact decide_eq_false fun e => (hvm.1 e) hd
    · rw [if_neg hd] at h1
      have hc1 : c1 = 0 := (congrArg Prod.snd h1).symm
      have hsp : sp = eigF m.length (entF m) (ofI x) := (congrArg Prod.fst h1).symm
      refine ⟨.inl hc1, hc2, hc3, m.length, entF m, ofI x, _, (kerR m.length m.length (lessF (entF m) (ofI x))).f, sqFe h, ⟨hr.1, hr.2.1⟩, ht.symm, ?_, hsp, by have := kerR_le m.length m.length (lessF (entF m) (ofI x)); omega, fun i hi => ker_less (kerR_ker _ _ _ hi), hdg, hvl, each⟩
      rw [hc1]
      exact decide_eq_true (hvm.2 hd)
  · left
    unfold eigN at h1
    rw [if_neg h] at h1
    have e : sqCode m (isNum x) = c1 := congrArg Prod.snd h1
    rw [← e]
    refine ⟨h, ?_⟩
    unfold sqCode
    split
    · split <;> decide
    · decide
theorem com_forms {c : List (List (List Int))} {xs : List Int} {l : List (List Int)} {c8 : Int} (h : comN c xs = (l, c8)) :
    ∃ (n s : Nat) (g : Mx), l = tabF s n g ∧ s ≤ 16 ∧ n ≤ 16 ∧ ∀ (k : Nat) (m : List (List Int)), 0 < s → c[k]? = some m → ∃ (f : Mx) (t : F), m = tabF n n f ∧ Sz n ∧ xs[k]? = some (toI t) ∧ xs.length = c.length ∧ ∀ i, i < s → zl n (ap n f (g i)) = zl n fun j => 0 + t * g i j := by
  unfold comN at h
  split at h
  · exact ⟨0, 0, fun _ _ => 0, (congrArg Prod.fst h).symm, by omega, by omega, fun k m h0 => absurd h0 (Nat.not_lt_zero _)⟩
  · rename_i hb
    split at h
    · rename_i hc
      obtain ⟨hR, hA⟩ := hc
      have hb' : c.any badM = false := by simpa using hb
      have hR2 := hR
      simp only [comR, Bool.and_eq_true, decide_eq_true_iff, List.all_eq_true] at hR2
      obtain ⟨⟨h1, h2, h3⟩, hnum⟩ := hR2
      obtain ⟨m0, hm0⟩ : ∃ m, c[0]? = some m := ⟨c[0]'(by omega), by simp⟩
      have hmat0 := isMat_parts (not_mat hb' hm0)
      have hrc := rowsC_eq hm0
      have hle : rowsC c ≤ 16 := by rw [hrc]; exact hmat0.2.1
      refine ⟨rowsC c, _, (kerR (c.length * rowsC c) (rowsC c) (stk (rowsC c) (fsC c xs) c.length)).f, (congrArg Prod.fst h).symm, by have := kerR_le (c.length * rowsC c) (rowsC c) (stk (rowsC c) (fsC c xs) c.length); omega, hle, fun k m _ hk => ?_⟩
      have hkl := (List.getElem?_eq_some_iff.1 hk).1
      have hmat := not_mat hb' hk
      rw [List.all_eq_true] at hA
      have hsq := hA m (List.mem_of_getElem? hk)
      simp only [sqB, decide_eq_true_iff] at hsq
      obtain ⟨y, hy⟩ : ∃ y, xs[k]? = some y := ⟨xs[k]'(by omega), by simp⟩
      have hyn := isNum_true (hnum y (List.mem_of_getElem? hy))
      have hyt : toI (ofI y) = y := by rw [toI_ofI]; omega
      have hmF : m = tabF (rowsC c) (rowsC c) (entF m) := by
        have e := mat_F hmat
        rw [← hsq.1, hsq.2] at e
        exact e
      refine ⟨entF m, ofI y, hmF, ⟨by rw [← hsq.2]; exact (isMat_parts hmat).1, hle⟩, by rw [hyt]; exact hy, h3, fun i hi => ?_⟩
      have hk2 := (ker_stk c.length).1 (kerR_ker _ _ _ hi) k hkl
      rw [fsC_at hk hy] at hk2
      exact ker_less hk2
    · exact ⟨0, 0, fun _ _ => 0, (congrArg Prod.fst h).symm, by omega, by omega, fun k m h0 => absurd h0 (Nat.not_lt_zero _)⟩
end Go.Proofs.Ytmbcncmmgfnlmaa
