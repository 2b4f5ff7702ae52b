/- Memory: rows exchanged and replaced in an owned table, the first rows of one. No walk. -/
import Derived.Test.YtmbcncmmgfnlmaaRow
namespace Go.Proofs.Ytmbcncmmgfnlmaa
open Go.RowKit
open Fus (F Mx toI ofI toI_bd toI_of ofI_toI finv)

theorem tabF_set {r c i : Nat} (f : Mx) (h : Nat → F) : (tabF r c f).set i (zl c h) = tabF r c (Fus.setR f i h) := by
  unfold tabF
  rw [vec_set]
  refine vec_congr fun a _ => ?_
  by_cases e : a = i
  · rw [if_pos e]; exact zl_congr fun j _ => by simp [Fus.setR, e]
  · rw [if_neg e]; exact zl_congr fun j _ => by simp [Fus.setR, e]
theorem zl_set {c k : Nat} (f : Nat → F) (x : F) : (zl c f).set k (toI x) = zl c (fun j => if j = k then x else f j) := by
  unfold zl; rw [vec_set]; exact vec_congr fun j _ => by
    show (if j = k then toI x else toI (f j)) = toI (if j = k then x else f j)
    split <;> rfl
theorem tabF_upd {r c i k : Nat} (f : Mx) (x : F) : (tabF r c f).set i ((zl c (f i)).set k (toI x)) = tabF r c (fun a b => if a = i ∧ b = k then x else f a b) := by
  rw [zl_set, tabF_set]
  refine tabF_congr fun a b _ _ => ?_
  by_cases e1 : a = i
  · subst e1; simp [Fus.setR]
  · simp [Fus.setR, e1]
theorem tabF_take {r c d : Nat} (f : Mx) (h : d ≤ r) : (tabF r c f).take d = tabF d c f := by
  unfold tabF vec
  rw [← List.map_take, List.take_range, Nat.min_eq_left h]

section
variable {w w' : World} {T : TypeId} {B : Nat} {v u : Value} {us : List Value}
theorem Own.take {g n cap d : Nat} (h : Own w T B (.slice (some ⟨g, 0, none⟩) n cap) us) (hd : d ≤ n) : Own w T B (.slice (some ⟨g, 0, none⟩) d cap) (us.take d) := by
  have hn := h.len
  subst hn
  unfold Own at h ⊢
  obtain ⟨_, h2⟩ := h
  have hl : (us.take d).length = d := by rw [List.length_take]; omega
  rw [hl]
  refine ⟨by rw [hl]; omega, .inr ?_⟩
  rcases h2 with ⟨h3, _⟩ | ⟨g', cap', cur, h3, h4, h5, h6, h7, h8, h9⟩
  · cases h3
  · cases h3
    refine ⟨g, cap, cur, rfl, h4, h5, by omega, h7, h8, ?_⟩
    rw [← h9, List.take_take]
    congr 1
    omega
theorem Own.capLe {g n cap : Nat} (h : Own w T B (.slice (some ⟨g, 0, none⟩) n cap) us) : n ≤ cap := by
  have hn := h.len
  rcases h.shape with ⟨h1, _⟩ | ⟨g', cap', h1, _, _, h2⟩
  · cases h1
  · cases h1; exact h2
end
theorem OwnM.capLe {w : World} {B g n cap : Nat} {xss : List (List Int)} (h : OwnM w B (.slice (some ⟨g, 0, none⟩) n cap) xss) : n ≤ cap := by
  obtain ⟨us, ho, _⟩ := h; exact ho.capLe
theorem OwnM.take {w : World} {B g n cap d : Nat} {xss : List (List Int)} (h : OwnM w B (.slice (some ⟨g, 0, none⟩) n cap) xss) (hd : d ≤ n) : OwnM w B (.slice (some ⟨g, 0, none⟩) d cap) (xss.take d) := by
  obtain ⟨us, ho, hlen, hr, ha⟩ := h
  refine ⟨us.take d, ho.take hd, by simp [hlen], fun i u xs h1 h2 => ?_, fun i j u u' h1 h2 => ?_⟩
  · rw [List.getElem?_take] at h1 h2
    split at h1
    · rw [if_pos (by assumption)] at h2; exact hr i u xs h1 h2
    · cases h1
  · rw [List.getElem?_take] at h1 h2
    split at h1
    · split at h2
      · exact ha i j u u' h1 h2
      · cases h2
    · cases h1
theorem OwnM.drewN {w : World} {B : Nat} {v : Value} {xss : List (List Int)} (h : OwnM w B v xss) (n : Nat) : OwnM (w.drewN n) B v xss := by
  obtain ⟨us, ho, hlen, hr, ha⟩ := h
  exact ⟨us, ho, hlen, fun i u xs h1 h2 => hr i u xs h1 h2, ha⟩
theorem OwnM.len {w : World} {B g n cap : Nat} {s : Option Nat} {o : Nat} {xss : List (List Int)} (h : OwnM w B (.slice (some ⟨g, o, s⟩) n cap) xss) : n = xss.length := by
  obtain ⟨us, ho, hlen, _⟩ := h
  rw [ho.len, hlen]
theorem OwnM.frozenAt {w : World} {B g n cap : Nat} {xss : List (List Int)} (h : OwnM w B (.slice (some ⟨g, 0, none⟩) n cap) xss) (i : Nat) : w.frozen? ⟨g, i, none⟩ = false := by
  obtain ⟨us, ho, _⟩ := h; exact ho.frozen i
/-- what the walk wants to know where a row of an owned table is read -/
theorem OwnM.rowK {w : World} {B g n cap : Nat} {xss : List (List Int)} {k : Nat} {xs : List Int} (h : OwnM w B (.slice (some ⟨g, 0, none⟩) n cap) xss) (hx : xss[k]? = some xs) (hp : 0 < xs.length) :
    ∃ gk ck, w.cell? ⟨g, k, none⟩ = some (.slice (some ⟨gk, 0, none⟩) xs.length ck) ∧ OwnI w B (.slice (some ⟨gk, 0, none⟩) xs.length ck) xs ∧ gk ≠ g ∧ B ≤ gk ∧ gk < w.heap.size := by
  have h' := h
  obtain ⟨us, ho, _⟩ := h'
  obtain ⟨u, hu, hI⟩ := h.rowAt hx
  rcases hI.shape with ⟨_, h2⟩ | ⟨gk, ck, rfl, h3, h4, _⟩
  · rw [List.map_eq_nil_iff] at h2; subst h2; simp at hp
  · rw [List.length_map] at hu hI
    exact ⟨gk, ck, hu, hI, fun e => Own.other ho hI (by decide) rfl (by rw [e]; rfl), h3, h4⟩
theorem cell_set_over {w : World} {g p d : Nat} {u up : Value} (hp : w.cell? ⟨g, p, none⟩ = some up) (hd : w.cell? ⟨g, d, none⟩ = some u) : (w.setCell ⟨g, p, none⟩ u).cell? ⟨g, d, none⟩ = some u := by
  by_cases e : p = d
  · subst e; exact World.cell?_setCell_same _ _ _ hp
  · rw [World.cell?_setCell_other _ _ _ _ (fun h => e (by cases h; rfl))]; exact hd
theorem OwnM.lt {w : World} {B g n cap : Nat} {xss : List (List Int)} (h : OwnM w B (.slice (some ⟨g, 0, none⟩) n cap) xss) : B ≤ g ∧ g < w.heap.size := by
  obtain ⟨us, ho, _⟩ := h; exact ho.lt rfl
/-- .. where an entry of an owned table is read or written -/
theorem OwnM.entryI {w : World} {B g n cap : Nat} {xss : List (List Int)} {k i : Nat} {xs : List Int} {y : Int} (h : OwnM w B (.slice (some ⟨g, 0, none⟩) n cap) xss) (hx : xss[k]? = some xs) (hy : xs[i]? = some y) :
    ∃ gk ck, w.cell? ⟨g, k, none⟩ = some (.slice (some ⟨gk, 0, none⟩) xs.length ck) ∧ w.cell? ⟨gk, i, none⟩ = some (vi y) ∧ w.frozen? ⟨gk, i, none⟩ = false ∧ B ≤ gk ∧ gk ≠ g ∧
      (∀ x, OwnM (w.setCell ⟨gk, i, none⟩ (vi x)) B (.slice (some ⟨g, 0, none⟩) n cap) (xss.set k (xs.set i x))) ∧ OwnI w B (.slice (some ⟨gk, 0, none⟩) xs.length ck) xs := by
  obtain ⟨gk, ck, h1, h2, h3, h4, h5, h6⟩ := h.entry hx hy
  obtain ⟨gk', ck', h7, h8, _⟩ := h.rowK hx (by have := (List.getElem?_eq_some_iff.1 hy).1; omega)
  rw [h1] at h7
  cases h7
  exact ⟨gk, ck, h1, h2, h3, h4, h5, h6, h8⟩
/-- two rows exchanged -/
theorem OwnM.swap {w : World} {B g n cap : Nat} {xss : List (List Int)} {a b : Nat} {ua ub : Value} {xa xb : List Int} (h : OwnM w B (.slice (some ⟨g, 0, none⟩) n cap) xss)
    (ha : w.cell? ⟨g, a, none⟩ = some ua) (hb : w.cell? ⟨g, b, none⟩ = some ub) (hxa : xss[a]? = some xa) (hxb : xss[b]? = some xb) (hab : a ≠ b) :
    OwnM ((w.setCell ⟨g, a, none⟩ ub).setCell ⟨g, b, none⟩ ua) B (.slice (some ⟨g, 0, none⟩) n cap) ((xss.set a xb).set b xa) := by
  obtain ⟨us, ho, hlen, hr, hap⟩ := h
  have hla := (List.getElem?_eq_some_iff.1 hxa).1
  have hlb := (List.getElem?_eq_some_iff.1 hxb).1
  have hua : us[a]? = some ua := by
    obtain ⟨u, hu⟩ : ∃ u, us[a]? = some u := ⟨us[a]'(by omega), by simp⟩
    have := Own.cell ho hu
    rw [ha] at this; cases this; exact hu
  have hub : us[b]? = some ub := by
    obtain ⟨u, hu⟩ : ∃ u, us[b]? = some u := ⟨us[b]'(by omega), by simp⟩
    have := Own.cell ho hu
    rw [hb] at this; cases this; exact hu
  have idx : ∀ (j : Nat) (u : Value), ((us.set a ub).set b ua)[j]? = some u → (if j = b then us[a]? else if j = a then us[b]? else us[j]?) = some u := by
    intro j u hj
    rw [List.getElem?_set] at hj
    by_cases e : b = j
    · rw [if_pos e] at hj; rw [if_pos e.symm]
      split at hj
      · rw [hua]; exact hj
      · cases hj
    · rw [if_neg e] at hj; rw [if_neg (fun e' => e e'.symm)]
      rw [List.getElem?_set] at hj
      by_cases e2 : a = j
      · rw [if_pos e2] at hj; rw [if_pos e2.symm]
        split at hj
        · rw [hub]; exact hj
        · cases hj
      · rw [if_neg e2] at hj; rw [if_neg (fun e' => e2 e'.symm)]; exact hj
  have idx2 : ∀ (j : Nat) (x : List Int), ((xss.set a xb).set b xa)[j]? = some x → (if j = b then xss[a]? else if j = a then xss[b]? else xss[j]?) = some x := by
    intro j u hj
    rw [List.getElem?_set] at hj
    by_cases e : b = j
    · rw [if_pos e] at hj; rw [if_pos e.symm]
      split at hj
      · rw [hxa]; exact hj
      · cases hj
    · rw [if_neg e] at hj; rw [if_neg (fun e' => e e'.symm)]
      rw [List.getElem?_set] at hj
      by_cases e2 : a = j
      · rw [if_pos e2, if_pos (by omega)] at hj; rw [if_pos e2.symm, hxb]; exact hj
      · rw [if_neg e2] at hj; rw [if_neg (fun e' => e2 e'.symm)]; exact hj
  have row : ∀ {j : Nat} {u : Value} {xs : List Int}, us[j]? = some u → xss[j]? = some xs → OwnI ((w.setCell ⟨g, a, none⟩ ub).setCell ⟨g, b, none⟩ ua) B u xs := by
    intro j u xs h1 h2
    have h0 := hr j u xs h1 h2
    have hne : u.ownBlock ≠ some g := Own.other ho h0 (by decide) rfl
    exact Own.keepOther (a := ⟨g, b, none⟩) (Own.keepOther (a := ⟨g, a, none⟩) h0 hne _) hne _
  refine ⟨(us.set a ub).set b ua, (ho.store a ub).store b ua, by simp [hlen], fun j u xs h1 h2 => ?_, fun j k u1 u2 h1 h2 hjk => ?_⟩
  · have i1 := idx j u h1
    have i2 := idx2 j xs h2
    by_cases e : j = b
    · rw [if_pos e] at i1 i2; exact row i1 i2
    · rw [if_neg e] at i1 i2
      by_cases e2 : j = a
      · rw [if_pos e2] at i1 i2; exact row i1 i2
      · rw [if_neg e2] at i1 i2; exact row i1 i2
  · have i1 := idx j u1 h1
    have i2 := idx k u2 h2
    have pick : ∀ l : Nat, (if l = b then us[a]? else if l = a then us[b]? else us[l]?) = us[if l = b then a else if l = a then b else l]? := fun l => by split; rfl; split <;> rfl
    rw [pick] at i1 i2
    exact hap _ _ u1 u2 i1 i2 (by split <;> split <;> (try split) <;> (try split) <;> omega)
/-- row p gets row d, and row d a new row -/
theorem OwnM.swapIn {w0 w2 : World} {B g n cap p d : Nat} {xss : List (List Int)} {ud u : Value} {xd xs : List Int} (h : OwnM w0 B (.slice (some ⟨g, 0, none⟩) n cap) xss) (hB : B ≤ w0.heap.size)
    (hd : w0.cell? ⟨g, d, none⟩ = some ud) (hxd : xss[d]? = some xd) (hb : Below w0.heap.size (w0.setCell ⟨g, p, none⟩ ud) w2) (hu : OwnI w2 w0.heap.size u xs) :
    OwnM (w2.setCell ⟨g, d, none⟩ u) B (.slice (some ⟨g, 0, none⟩) n cap) ((xss.set p xd).set d xs) := by
  obtain ⟨us, ho, hlen, hr, hap⟩ := h
  have hld := (List.getElem?_eq_some_iff.1 hxd).1
  have hud : us[d]? = some ud := by
    obtain ⟨u, hu⟩ : ∃ u, us[d]? = some u := ⟨us[d]'(by omega), by simp⟩
    have := Own.cell ho hu
    rw [hd] at this; cases this; exact hu
  have hglt : g < w0.heap.size := (ho.lt rfl).2
  have hb' : Below (w0.setCell ⟨g, p, none⟩ ud).heap.size (w0.setCell ⟨g, p, none⟩ ud) w2 := hb.mono (by simp)
  have row : ∀ {j : Nat} {u' : Value} {xs' : List Int}, us[j]? = some u' → xss[j]? = some xs' → OwnI (w2.setCell ⟨g, d, none⟩ u) B u' xs' := by
    intro j u' xs' h1 h2
    have h0 := hr j u' xs' h1 h2
    have hne : u'.ownBlock ≠ some g := Own.other ho h0 (by decide) rfl
    exact Own.keepOther (a := ⟨g, d, none⟩) ((Own.keepOther (a := ⟨g, p, none⟩) h0 hne _).keep hb') hne _
  have old : ∀ (j : Nat) (u' : Value), us[j]? = some u' → ∀ b, u'.ownBlock = some b → b < w0.heap.size := by
    intro j u' h b hb'
    obtain ⟨xs', hx'⟩ : ∃ xs', xss[j]? = some xs' := ⟨xss[j]'(by rw [← hlen]; exact (List.getElem?_eq_some_iff.1 h).1), by simp⟩
    exact ((hr j u' xs' h hx').lt hb').2
  have idx : ∀ (j : Nat) (u' : Value), ((us.set p ud).set d u)[j]? = some u' → (j = d ∧ u' = u) ∨ (j ≠ d ∧ us[if j = p then d else j]? = some u') := by
    intro j u' hj
    rw [List.getElem?_set] at hj
    by_cases e : d = j
    · rw [if_pos e] at hj
      split at hj
      · cases hj; exact .inl ⟨e.symm, rfl⟩
      · cases hj
    · rw [if_neg e] at hj
      rw [List.getElem?_set] at hj
      by_cases e2 : p = j
      · rw [if_pos e2] at hj
        split at hj
        · cases hj; exact .inr ⟨fun e' => e e'.symm, by rw [if_pos e2.symm]; exact hud⟩
        · cases hj
      · rw [if_neg e2] at hj
        exact .inr ⟨fun e' => e e'.symm, by rw [if_neg (fun e' => e2 e'.symm)]; exact hj⟩
  have idx2 : ∀ (j : Nat) (x : List Int), ((xss.set p xd).set d xs)[j]? = some x → (j = d ∧ x = xs) ∨ (j ≠ d ∧ xss[if j = p then d else j]? = some x) := by
    intro j u' hj
    rw [List.getElem?_set] at hj
    by_cases e : d = j
    · rw [if_pos e] at hj
      split at hj
      · cases hj; exact .inl ⟨e.symm, rfl⟩
      · cases hj
    · rw [if_neg e] at hj
      rw [List.getElem?_set] at hj
      by_cases e2 : p = j
      · rw [if_pos e2] at hj
        split at hj
        · cases hj; exact .inr ⟨fun e' => e e'.symm, by rw [if_pos e2.symm]; exact hxd⟩
        · cases hj
      · rw [if_neg e2] at hj
        exact .inr ⟨fun e' => e e'.symm, by rw [if_neg (fun e' => e2 e'.symm)]; exact hj⟩
  refine ⟨(us.set p ud).set d u, ((ho.store p ud).keep hb').store d u, by simp [hlen], fun j u' x h1 h2 => ?_, fun j k u1 u2 h1 h2 hjk b hb1 hb2 => ?_⟩
  · rcases idx j u' h1 with ⟨e, rfl⟩ | ⟨e, i1⟩
    · rcases idx2 j x h2 with ⟨_, rfl⟩ | ⟨e2, _⟩
      · exact (hu.keepOther (fun e => by have := (hu.lt e).1; simp at this; omega) _).mono hB
      · exact absurd e e2
    · rcases idx2 j x h2 with ⟨e2, _⟩ | ⟨_, i2⟩
      · exact absurd e2 e
      · exact row i1 i2
  · rcases idx j u1 h1 with ⟨e1, rfl⟩ | ⟨e1, i1⟩ <;> rcases idx k u2 h2 with ⟨e2, rfl⟩ | ⟨e2, i2⟩
    · omega
    · have := (hu.lt hb1).1; have := old _ u2 i2 b hb2; omega
    · have := (hu.lt hb2).1; have := old _ u1 i1 b hb1; omega
    · refine hap _ _ u1 u2 i1 i2 ?_ b hb1 hb2
      split <;> split <;> omega
/-- an owned row stays while rows of a table are replaced -/
theorem OwnI.stays {w0 w : World} {B B' g n cap i : Nat} {xss : List (List Int)} {R u : Value} {xs : List Int} (h : OwnI w0 B' R xs) (hm : OwnM w0 B (.slice (some ⟨g, 0, none⟩) n cap) xss) (hb : Below w0.heap.size w0 w) : OwnI (w.setCell ⟨g, i, none⟩ u) B' R xs := by
  obtain ⟨us, ho, _⟩ := hm
  exact Own.keepOther (a := ⟨g, i, none⟩) (Own.keep h hb) (Own.other ho h (by decide) rfl) _
end Go.Proofs.Ytmbcncmmgfnlmaa
