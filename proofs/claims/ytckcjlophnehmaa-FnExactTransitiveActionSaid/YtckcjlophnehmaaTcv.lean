/- Own tables off given blocks; the matrices of the reference by their rounds. -/
import Derived.Test.YtckcjlophnehmaaTcu
namespace Go.Proofs.Ytckcjlophnehmaa
open Go.RowKit
/-- an own table of integers, none of whose blocks is in R -/
def MatR (w : World) (B : Nat) (R : Nat → Prop) (v : Value) (xss : List (List Int)) : Prop :=
  ∃ us, Own w 29 B v us ∧ us.length = xss.length ∧ (∀ (i : Nat) (u : Value) (xs : List Int), us[i]? = some u → xss[i]? = some xs → OwnI w B u xs) ∧ apart us ∧ (∀ g, v.ownBlock = some g → ¬ R g) ∧ ∀ (i : Nat) (u : Value), us[i]? = some u → ∀ g, u.ownBlock = some g → ¬ R g
theorem MatR.own {w : World} {B : Nat} {R : Nat → Prop} {v : Value} {xss : List (List Int)} (h : MatR w B R v xss) : OwnM w B v xss := by
  obtain ⟨us, h1, h2, h3, h4, _⟩ := h
  exact ⟨us, h1, h2, h3, h4⟩
theorem MatR.keep {w w' : World} {B : Nat} {R : Nat → Prop} {v : Value} {xss : List (List Int)} (h : MatR w B R v xss) (hb : Below w.heap.size w w') : MatR w' B R v xss := by
  obtain ⟨us, h1, h2, h3, h4, h5⟩ := h
  exact ⟨us, h1.keep hb, h2, fun i u xs e1 e2 => (h3 i u xs e1 e2).keep hb, h4, h5⟩
theorem push_parts {w0 w w' : World} {B : Nat} {v v' u : Value} {us : List Value} {xss : List (List Int)} {xs : List Int} (ho : Own w0 29 B v us) (hlen : us.length = xss.length)
    (hr : ∀ (i : Nat) (u : Value) (xs : List Int), us[i]? = some u → xss[i]? = some xs → OwnI w0 B u xs) (ha : apart us) (hb : Below w0.heap.size w0 w) (hB : B ≤ w0.heap.size) (hu : OwnI w w0.heap.size u xs)
    (h1 : Own w' 29 B v' (us ++ [u])) (hg : (w.alloc (.cells #[u] 29)).grownBy w' v.ownBlock) :
    (us ++ [u]).length = (xss ++ [xs]).length ∧ (∀ (i : Nat) (u' : Value) (xs' : List Int), (us ++ [u])[i]? = some u' → (xss ++ [xs])[i]? = some xs' → OwnI w' B u' xs') ∧ apart (us ++ [u]) := by
  have old : ∀ (j : Nat) (u' : Value), us[j]? = some u' → ∀ b, u'.ownBlock = some b → b < w0.heap.size := by
    intro j u' h b hb'
    obtain ⟨xs', hx'⟩ : ∃ xs', xss[j]? = some xs' := ⟨xss[j]'(by rw [← hlen]; exact (List.getElem?_eq_some_iff.1 h).1), by simp⟩
    exact ((hr j u' xs' h hx').lt hb').2
  have keepRow : ∀ {B'} {u' : Value} {xs' : List Int}, OwnI w B' u' xs' → OwnI w' B' u' xs' := by
    intro B' u' xs' hu'
    refine Own.grown (hu'.alloc _) hg ?_
    cases hub : u'.ownBlock with
    | none => exact .inl rfl
    | some b => exact .inr (fun e => Own.other hu' (ho.keep hb) (by decide) hub e.symm)
  refine ⟨by simp [hlen], ?_, ?_⟩
  · intro j u' xs' h2 h3
    rcases Nat.lt_trichotomy j us.length with hj | hj | hj
    · rw [List.getElem?_append_left hj] at h2
      rw [List.getElem?_append_left (by omega)] at h3
      exact keepRow ((hr j u' xs' h2 h3).keep hb)
    · rw [List.getElem?_append_right (by omega)] at h2
      rw [List.getElem?_append_right (by omega)] at h3
      rw [hj, Nat.sub_self] at h2
      rw [hj, hlen, Nat.sub_self] at h3
      cases h2; cases h3
      exact (keepRow hu).mono hB
    · rw [List.getElem?_eq_none (by simp; omega)] at h2
      cases h2
  · intro j k u1 u2 h2 h3 hjk b hb1 hb2
    have cls : ∀ (j : Nat) (u' : Value), (us ++ [u])[j]? = some u' → (j < us.length ∧ us[j]? = some u') ∨ (j = us.length ∧ u' = u) := by
      intro j u' h
      rcases Nat.lt_trichotomy j us.length with hj | hj | hj
      · rw [List.getElem?_append_left hj] at h; exact .inl ⟨hj, h⟩
      · rw [List.getElem?_append_right (by omega), hj, Nat.sub_self] at h; cases h; exact .inr ⟨hj, rfl⟩
      · rw [List.getElem?_eq_none (by simp; omega)] at h; cases h
    rcases cls j u1 h2 with ⟨hj, e1⟩ | ⟨hj, rfl⟩ <;> rcases cls k u2 h3 with ⟨hk, e2⟩ | ⟨hk, rfl⟩
    · exact ha j k u1 u2 e1 e2 hjk b hb1 hb2
    · have := old j u1 e1 b hb1; have := (hu.lt hb2).1; omega
    · have := old k u2 e2 b hb2; have := (hu.lt hb1).1; omega
    · omega
/-- append of a new row: the blocks of R stay, and none of them comes to be the table's -/
theorem wp_pushR {ops : Array Oper} {rest : List Oper} {o : Oper} {a : Act} {Q : Exit → Act → World → Prop} {w0 w : World} {B : Nat} {R : Nat → Prop} {v u : Value} {xss : List (List Int)} {xs : List Int} (hown : MatR w0 B R v xss) (hR : ∀ g, R g → g < w0.heap.size) (hb : Below w0.heap.size w0 w) (hu : OwnI w w0.heap.size u xs) (hgd : o.guard = none) (s x : Operand)
    (ho : o.op = .call { callee := .builtin .append, args := #[s, x], argTypes := #[22, 22] })
    (hs : a.eval s = v) {gx : Nat} (hx : a.eval x = .slice (some ⟨gx, 0, none⟩) 1 1) (hgx : gx = w.heap.size)
    (hB : B ≤ w0.heap.size) (hlen : xss.length ≤ 1000000)
    (h : ∀ v' w', MatR w' B R v' (xss ++ [xs]) → Below B w w' → (∀ g, R g → w'.heap[g]? = w.heap[g]?) → wpList Try.prog ops Q rest (a.put o.dst v') w') :
    wpList Try.prog ops Q (o :: rest) a (w.alloc (.cells #[u] 29)) := by
  obtain ⟨us, h1, h2, h3, h4, h5, h6⟩ := hown
  obtain ⟨p, n, c, rfl⟩ := hu.slice
  subst hgx
  have hsz := hb.size
  obtain ⟨i, hi, hz0, hz1', hz2⟩ := info_parts info_ints
  refine wpList_append_own_at _ hgd s x _ ho B 29 i (.slice none 0 0) 1 24 Try.underlying22 hi hz0 hz1' hz2 rfl (by omega) v us.length us hs (World.ownsRow.alloc (h1.keep hb) _) ⟨w.heap.size, 0, none⟩ 1 1 [.slice p n c] hx rfl ?_ ?_ ?_ ?_ ?_ ?_
  · exact cell_one_new _ _ _
  · intro u' hu'
    simp at hu'
    subst hu'
    rfl
  · unfold maxLen; omega
  · omega
  · simp; omega
  · intro v' w' g1 g2 _ hat
    obtain ⟨q1, q2, q3⟩ := push_parts h1 h2 h3 h4 hb hB hu (Own.push g1) g2
    refine h v' w' ⟨us ++ [.slice p n c], Own.push g1, q1, q2, q3, fun g hg hRg => ?_, fun j u' hu' g hg hRg => ?_⟩ (grown_below (h1.keep hb) (Nat.le_trans hB hb.size) g2) (fun g hg => ?_)
    · rcases hat with e | e
      · exact h5 g (by rw [← e]; exact hg) hRg
      · rw [e] at hg; cases hg; have := hR _ hRg; simp at this; omega
    · by_cases hj : j < us.length
      · rw [List.getElem?_append_left hj] at hu'
        exact h6 j u' hu' g hg hRg
      · have hi := (List.getElem?_eq_some_iff.1 hu').1
        simp at hi
        obtain rfl : j = us.length := by omega
        simp at hu'
        subst hu'
        have := (hu.lt hg).1
        have := hR _ hRg
        omega
    · have hgw := hR g hg
      rw [g2.block g (by simp; omega) (fun e => h5 g e.symm hg)]
      exact Below.heap_alloc _ _ _ (by omega)
/-- one entry -/
theorem MatR.entry {w : World} {B g n cap : Nat} {R : Nat → Prop} {xss : List (List Int)} {k i : Nat} {xs : List Int} {y : Int} (h : MatR w B R (.slice (some ⟨g, 0, none⟩) n cap) xss) (hx : xss[k]? = some xs) (hy : xs[i]? = some y) :
    ∃ gk ck, w.cell? ⟨g, k, none⟩ = some (.slice (some ⟨gk, 0, none⟩) xs.length ck) ∧ w.cell? ⟨gk, i, none⟩ = some (vi y) ∧ w.frozen? ⟨gk, i, none⟩ = false ∧ B ≤ gk ∧ ¬ R gk ∧
      ∀ x, MatR (w.setCell ⟨gk, i, none⟩ (vi x)) B R (.slice (some ⟨g, 0, none⟩) n cap) (xss.set k (xs.set i x)) := by
  obtain ⟨us, ho, hlen, hr, ha, h5, h6⟩ := h
  have hk := (List.getElem?_eq_some_iff.1 hx).1
  obtain ⟨u, hu⟩ : ∃ u, us[k]? = some u := ⟨us[k]'(by omega), by simp⟩
  have hrow := hr k u xs hu hx
  rcases hrow.shape with ⟨_, hnil⟩ | ⟨gk, ck, rfl, hB, hlt, _⟩
  · rw [List.map_eq_nil_iff] at hnil; subst hnil; simp at hy
  · rw [List.length_map] at hu hrow
    have hne : gk ≠ g := fun e => Own.other ho hrow (by decide) rfl (by rw [e]; rfl)
    refine ⟨gk, ck, Own.cell ho hu, Own.cell hrow (u := vi y) (by simp [hy]), Own.frozen hrow i, hB, h6 k _ hu gk rfl, fun x => ⟨us, ?_, by simp [hlen], ?_, ha, h5, h6⟩⟩
    · exact Own.keepOther (a := ⟨gk, i, none⟩) ho (fun e => hne (by cases e; rfl)) _
    · intro j u' xs' h1 h2
      rw [List.getElem?_set] at h2
      by_cases e : k = j
      · subst e
        rw [if_pos rfl, if_pos hk] at h2
        rw [hu] at h1
        cases h1; cases h2
        have := Own.store hrow i (vi x)
        rw [← List.map_set] at this
        exact this
      · rw [if_neg e] at h2
        refine Own.keepOther (a := ⟨gk, i, none⟩) (hr j u' xs' h1 h2) (fun hb => ?_) _
        exact ha k j _ u' hu h1 e gk rfl hb
theorem MatR.on {w : World} {B : Nat} {R : Nat → Prop} {v : Value} {m : List (List Int)} (h : MatR w B R v m) (hl : m.length ≤ 1000000) (hl' : ∀ xs ∈ m, xs.length ≤ 1000000) : TabOn w (fun g => B ≤ g ∧ g < w.heap.size ∧ ¬ R g) v m := fun w' hw => by
  obtain ⟨us, h1, h2, h3, h4, h5, h6⟩ := h
  have h' : OwnM w' B v m := ⟨us, h1.of_block fun g e => hw g ⟨(h1.lt e).1, (h1.lt e).2, h5 g e⟩, h2, fun i u xs e1 e2 => (h3 i u xs e1 e2).of_block fun g e => hw g ⟨((h3 i u xs e1 e2).lt e).1, ((h3 i u xs e1 e2).lt e).2, h6 i u e1 g e⟩, h4⟩
  exact h'.rows (by omega) fun xs hx => Nat.le_trans (hl' xs hx) (by omega)
/-- an empty own table -/
theorem MatR.empty {w : World} {B g : Nat} {R : Nat → Prop} (h : Own w 29 B (.slice (some ⟨g, 0, none⟩) 0 0) []) (hg : ¬ R g) : MatR w B R (.slice (some ⟨g, 0, none⟩) 0 0) [] :=
  ⟨[], h, rfl, fun i u xs e => by simp at e, fun i j u u' e => by simp at e, fun x e => by simp [Value.ownBlock] at e; subst e; exact hg, fun i u e => by simp at e⟩
open Classical in
/-- the matrix with the ones of the first y members -/
noncomputable def mkE (g : Nat → Nat → Nat) (H : List Nat) (x y r c : Nat) : Int := if ∃ z, z < y ∧ pnt g H (g x z) = r ∧ pnt g H z = c then 1 else 0
noncomputable def mk (n : Nat) (g : Nat → Nat → Nat) (H : List Nat) (x y : Nat) : List (List Int) := tab (cnt g H n) (cnt g H n) (mkE g H x y)
theorem mk_zero (n : Nat) (g : Nat → Nat → Nat) (H : List Nat) (x : Nat) : (tab (cnt g H n) (cnt g H n) fun _ _ => 0) = mk n g H x 0 := tab_congr fun r c _ _ => by
  unfold mkE
  rw [if_neg (by rintro ⟨z, h, _⟩; omega)]
theorem mk_next (n : Nat) (g : Nat → Nat → Nat) (H : List Nat) (x y : Nat) : (mk n g H x y).set (pnt g H (g x y)) ((vec (cnt g H n) (mkE g H x y (pnt g H (g x y)))).set (pnt g H y) 1) = mk n g H x (y + 1) := by
  unfold mk
  rw [tab_set]
  refine tab_congr fun r c _ _ => ?_
  unfold upd
  by_cases e : r = pnt g H (g x y) ∧ c = pnt g H y
  · rw [if_pos e]
    unfold mkE
    rw [if_pos ⟨y, by omega, e.1.symm, e.2.symm⟩]
  · rw [if_neg e]
    unfold mkE
    by_cases h : ∃ z, z < y ∧ pnt g H (g x z) = r ∧ pnt g H z = c
    · rw [if_pos h, if_pos (by obtain ⟨z, h1, h2⟩ := h; exact ⟨z, by omega, h2⟩)]
    · rw [if_neg h, if_neg]
      rintro ⟨z, h1, h2, h3⟩
      by_cases hz : z < y
      · exact h ⟨z, hz, h2, h3⟩
      · obtain rfl : z = y := by omega
        exact e ⟨h2.symm, h3.symm⟩
theorem mk_end {n : Nat} {g : Nat → Nat → Nat} {H : List Nat} (s : Sg n g H) (x : Nat) : mk n g H x n = tab (cnt g H n) (cnt g H n) (actE n g H x) := tab_congr fun r c _ hc => by
  unfold mkE actE
  by_cases h : ∃ z, z < n ∧ pnt g H (g x z) = r ∧ pnt g H z = c
  · rw [if_pos h, if_pos ((s.act_iff hc).1 h)]
  · rw [if_neg h, if_neg fun e => h ((s.act_iff hc).2 e)]
/-- an append whose outcome is told -/
theorem wp_appendRun {ops : Array Oper} {rest : List Oper} {o : Oper} {a : Act} {Q : Exit → Act → World → Prop} {w w' : World} {t : TypeId} {v u v' : Value} (hgd : o.guard = none) (s x : Operand)
    (ho : o.op = .call { callee := .builtin .append, args := #[s, x], argTypes := #[t, t] }) (hs : a.eval s = v) (hx : a.eval x = u)
    (hr : ∀ ty, (Builtin.append_ #[t, t] ty #[v, u]).run Try.prog w = .ok v' w') (h : wpList Try.prog ops Q rest (a.put o.dst v') w') : wpList Try.prog ops Q (o :: rest) a w := by
  refine wpList_plain hgd fun K hK => ?_
  unfold Oper.wp execOp
  simp only [ho, resolve, invoke, builtin, Sem.run_bind, Sem.run_pure, Result.andThen_ok, List.map_toArray, List.map_cons, List.map_nil, hs, hx, hr]
  exact hK _ _ h
theorem cellOf3 {w w' : World} {B g i : Nat} {v : Value} (hb : Below B w w') (hg : g < B) (hc : w.cell? ⟨g, i, none⟩ = some v) : w'.cell? ⟨g, i, none⟩ = some v := by
  rw [← hc]; simp only [World.cell?, hb.block g hg]
theorem frozenOf3 {w w' : World} {B g i : Nat} (hb : Below B w w') (hg : g < B) (hc : w.frozen? ⟨g, i, none⟩ = false) : w'.frozen? ⟨g, i, none⟩ = false := by
  rw [← hc]; simp only [World.frozen?, hb.block g hg]
/-- one row of the ring's table -/
theorem row_one {n T : Nat} {g : Nat → Nat → Nat} {x y : Nat} (hx : x < n) (hy : y < n) (e : T = g x y) : (vec n fun _ => (0 : Int)).set T 1 = vec n (tabE n g x y) := by
  rw [vec_set]
  refine vec_congr fun k _ => ?_
  unfold tabE
  by_cases h : k = T
  · rw [if_pos h, if_pos ⟨hx, hy, by rw [h, e]⟩]
  · rw [if_neg h, if_neg fun hh => h (by rw [e]; exact hh.2.2)]
end Go.Proofs.Ytckcjlophnehmaa
