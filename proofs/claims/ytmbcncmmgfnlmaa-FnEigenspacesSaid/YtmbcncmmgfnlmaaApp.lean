/- Laws of the walk: one integer, or one new row, is appended to what the call owns. Vectors and tables told by their entries. -/
import Derived.Test.YtmbcncmmgfnlmaaGme
import Derived.OwnWalk
namespace Go.Proofs.Ytmbcncmmgfnlmaa
open Go.RowKit

theorem Own.push {w' : World} {T : TypeId} {B : Nat} {v' u : Value} {us : List Value} (h : w'.ownsRow B T 1 v' (us.length + 1) (us ++ [u])) : Own w' T B v' (us ++ [u]) := by
  unfold Own; rw [List.length_append]; exact h
theorem grown_below {w w' : World} {B : Nat} {v u : Value} {T T' : TypeId} {us : List Value} (hown : Own w T B v us) (hB : B ≤ w.heap.size) (hg : (w.alloc (.cells #[u] T')).grownBy w' v.ownBlock) : Below B w w' :=
  ⟨hg.os, hg.tape, hg.output, Nat.le_trans (by simp) hg.size, fun k hk => by
    have h1 := hg.block k (by simp; omega) (fun e => by have := (hown.lt e.symm).1; omega)
    rw [h1]
    exact Below.heap_alloc _ _ _ (by omega)⟩

/-- append of one element of one cell -/
theorem wp_push {ops : Array Oper} {rest : List Oper} {o : Oper} {a : Act} {Q : Exit → Act → World → Prop} (w : World) (hgd : o.guard = none) (s x : Operand) (t : TypeId)
    (ho : o.op = .call { callee := .builtin .append, args := #[s, x], argTypes := #[t, t] }) (e : TypeId) (z : Value) (bytes : Nat) (ht : Try.prog.underlying t = some (.slice e))
    (hinfo : (Try.prog.info? e).map (fun i => (i.zero, i.size, i.bytes)) = some (some z, 1, bytes)) (hz1 : z.cells.size = 1)
    (B : Nat) (v u : Value) (us : List Value) (hs : a.eval s = v) (hown : Own w e B v us) {gx : Nat} (hx : a.eval x = .slice (some ⟨gx, 0, none⟩) 1 1) (hgx : gx = w.heap.size) (hu : u.oneCell' = true)
    (hB : B ≤ w.heap.size) (hlen : us.length ≤ 1000000) (hby : bytes ≤ 1000)
    (h : ∀ v' w', Own w' e B v' (us ++ [u]) → (w.alloc (.cells #[u] e)).grownBy w' v.ownBlock → Below B w w' → wpList Try.prog ops Q rest (a.put o.dst v') w') :
    wpList Try.prog ops Q (o :: rest) a (w.alloc (.cells #[u] e)) := by
  subst hgx
  obtain ⟨i, hi, hz0, hz1', hz2⟩ := info_parts hinfo
  refine wpList_append_own _ hgd s x t ho B e i z 1 bytes ht hi hz0 hz1' hz2 hz1 (by omega) v us.length us hs (World.ownsRow.alloc hown _) ⟨w.heap.size, 0, none⟩ 1 1 [u] hx rfl ?_ ?_ ?_ ?_ ?_ ?_
  · intro j u' hj
    cases j with
    | zero => simp at hj; subst hj; simp [Addr.add]
    | succ j => simp at hj
  · intro u' hu'
    simp at hu'
    subst hu'
    exact hu
  · unfold maxLen; omega
  · have : (us.length + 1) * bytes ≤ 1000001 * 1000 := Nat.mul_le_mul (by omega) hby
    omega
  · simp; omega
  · intro v' w' h1 h2 _
    exact h v' w' (Own.push h1) h2 (grown_below hown hB h2)

/-- append of one integer -/
theorem wp_pushI {ops : Array Oper} {rest : List Oper} {o : Oper} {a : Act} {Q : Exit → Act → World → Prop} {w : World} {B : Nat} {v : Value} {y : Int} {xs : List Int} (hown : OwnI w B v xs) (hgd : o.guard = none) (s x : Operand)
    (ho : o.op = .call { callee := .builtin .append, args := #[s, x], argTypes := #[35, 35] })
    (hs : a.eval s = v) {gx : Nat} (hx : a.eval x = .slice (some ⟨gx, 0, none⟩) 1 1) (hgx : gx = w.heap.size)
    (hB : B ≤ w.heap.size) (hlen : xs.length ≤ 1000000)
    (h : ∀ v' w', OwnI w' B v' (xs ++ [y]) → (w.alloc (.cells #[.int .i64 y] 2)).grownBy w' v.ownBlock → Below B w w' → wpList Try.prog ops Q rest (a.put o.dst v') w') :
    wpList Try.prog ops Q (o :: rest) a (w.alloc (.cells #[.int .i64 y] 2)) :=
  wp_push w hgd s x _ ho 2 (.int .i64 0) 8 Try.underlying35 info_int rfl B v (vi y) (xs.map vi) hs hown hx hgx rfl hB (by simpa using hlen) (by omega)
    (fun v' w' h1 h2 h3 => h v' w' (by rw [OwnI, List.map_append]; exact h1) h2 h3)

theorem OwnM.push {w0 w w' : World} {B : Nat} {v v' u : Value} {us : List Value} {xss : List (List Int)} {xs : List Int} (ho : Own w0 35 B v us) (hlen : us.length = xss.length)
    (hr : ∀ (i : Nat) (u : Value) (xs : List Int), us[i]? = some u → xss[i]? = some xs → OwnI w0 B u xs) (ha : apart us) (hb : Below w0.heap.size w0 w) (hB : B ≤ w0.heap.size) (hu : OwnI w w0.heap.size u xs)
    (h1 : Own w' 35 B v' (us ++ [u])) (hg : (w.alloc (.cells #[u] 35)).grownBy w' v.ownBlock) : OwnM w' B v' (xss ++ [xs]) := by
  have old : ∀ (j : Nat) (u' : Value), us[j]? = some u' → ∀ b, u'.ownBlock = some b → b < w0.heap.size := by
    intro j u' h b hb'
    obtain ⟨xs', hx'⟩ : ∃ xs', xss[j]? = some xs' := ⟨xss[j]'(by rw [← hlen]; exact (List.getElem?_eq_some_iff.1 h).1), by simp⟩
    exact ((hr j u' xs' h hx').lt hb').2
  have keepRow : ∀ {B'} {u' : Value} {xs' : List Int}, OwnI w B' u' xs' → OwnI w' B' u' xs' := by
    intro B' u' xs' hu'
    refine Own.grown (hu'.alloc _) hg ?_
    cases hub : u'.ownBlock with
    | none => exact .inl rfl
    | some b => exact .inr (fun e => Own.other hu' (ho.keep hb) (by decide) hub e.symm)
  refine ⟨us ++ [u], h1, by simp [hlen], ?_, ?_⟩
  · intro j u' xs' h2 h3
    rcases Nat.lt_trichotomy j us.length with hj | hj | hj
    · rw [List.getElem?_append_left hj] at h2
      rw [List.getElem?_append_left (by omega)] at h3
      exact keepRow ((hr j u' xs' h2 h3).keep hb)
    · rw [List.getElem?_append_right (by omega)] at h2
      rw [List.getElem?_append_right (by omega)] at h3
      rw [hj, Nat.sub_self] at h2
      rw [hj, hlen, Nat.sub_self] at h3
      cases h2; cases h3
      exact (keepRow hu).mono hB
    · rw [List.getElem?_eq_none (by simp; omega)] at h2
      cases h2
  · intro j k u1 u2 h2 h3 hjk b hb1 hb2
    have cls : ∀ (j : Nat) (u' : Value), (us ++ [u])[j]? = some u' → (j < us.length ∧ us[j]? = some u') ∨ (j = us.length ∧ u' = u) := by
      intro j u' h
      rcases Nat.lt_trichotomy j us.length with hj | hj | hj
      · rw [List.getElem?_append_left hj] at h; exact .inl ⟨hj, h⟩
      · rw [List.getElem?_append_right (by omega), hj, Nat.sub_self] at h; cases h; exact .inr ⟨hj, rfl⟩
      · rw [List.getElem?_eq_none (by simp; omega)] at h; cases h
    rcases cls j u1 h2 with ⟨hj, e1⟩ | ⟨hj, rfl⟩ <;> rcases cls k u2 h3 with ⟨hk, e2⟩ | ⟨hk, rfl⟩
    · exact ha j k u1 u2 e1 e2 hjk b hb1 hb2
    · have := old j u1 e1 b hb1; have := (hu.lt hb2).1; omega
    · have := old k u2 e2 b hb2; have := (hu.lt hb1).1; omega
    · omega

/-- append of one new row -/
theorem wp_pushM {ops : Array Oper} {rest : List Oper} {o : Oper} {a : Act} {Q : Exit → Act → World → Prop} {w0 w : World} {B : Nat} {v u : Value} {xss : List (List Int)} {xs : List Int} (hown : OwnM w0 B v xss) (hb : Below w0.heap.size w0 w) (hu : OwnI w w0.heap.size u xs) (hgd : o.guard = none) (s x : Operand)
    (ho : o.op = .call { callee := .builtin .append, args := #[s, x], argTypes := #[24, 24] })
    (hs : a.eval s = v) {gx : Nat} (hx : a.eval x = .slice (some ⟨gx, 0, none⟩) 1 1) (hgx : gx = w.heap.size)
    (hB : B ≤ w0.heap.size) (hlen : xss.length ≤ 1000000)
    (h : ∀ v' w', OwnM w' B v' (xss ++ [xs]) → Below B w w' → wpList Try.prog ops Q rest (a.put o.dst v') w') :
    wpList Try.prog ops Q (o :: rest) a (w.alloc (.cells #[u] 35)) := by
  obtain ⟨us, h1, h2, h3, h4⟩ := hown
  obtain ⟨p, n, c, rfl⟩ := hu.slice
  exact wp_push w hgd s x _ ho 35 (.slice none 0 0) 24 Try.underlying24 info_ints rfl B v (.slice p n c) us hs (h1.keep hb) hx hgx rfl (Nat.le_trans hB hb.size) (by omega) (by omega)
    (fun v' w' g1 g2 g3 => h v' w' (OwnM.push h1 h2 h3 h4 hb hB hu g1 g2) g3)

/-- an empty slice that was just laid -/
theorem own_empty (w : World) (T : TypeId) (B : Nat) (hB : B ≤ w.heap.size) : Own (w.alloc (.cells #[] T)) T B (.slice (some ⟨w.heap.size, 0, none⟩) 0 0) [] :=
  Own.lit (B := B) w T [] hB (by simp)
theorem ownM_empty (w : World) (B : Nat) (hB : B ≤ w.heap.size) : OwnM (w.alloc (.cells #[] 35)) B (.slice (some ⟨w.heap.size, 0, none⟩) 0 0) [] :=
  ⟨[], own_empty _ _ _ hB, rfl, fun i u xs h => by simp at h, fun i j u u' h => by simp at h⟩

/-! vectors and tables by their entries -/
def vec {α : Type} (n : Nat) (f : Nat → α) : List α := (List.range n).map f
theorem vec_length {α : Type} (n : Nat) (f : Nat → α) : (vec n f).length = n := by simp [vec]
theorem vec_at {α : Type} {n i : Nat} (f : Nat → α) (h : i < n) : (vec n f)[i]? = some (f i) := by simp [vec, h]
theorem vec_snoc {α : Type} (n : Nat) (f : Nat → α) : vec (n + 1) f = vec n f ++ [f n] := by simp [vec, List.range_succ]
theorem vec_congr {α : Type} {n : Nat} {f g : Nat → α} (h : ∀ i, i < n → f i = g i) : vec n f = vec n g := List.map_congr_left fun i hi => h i (List.mem_range.1 hi)
theorem vec_mem {α : Type} {n : Nat} {f : Nat → α} {x : α} (h : x ∈ vec n f) : ∃ i, i < n ∧ f i = x := by
  obtain ⟨i, hi, e⟩ := List.mem_map.1 h
  exact ⟨i, List.mem_range.1 hi, e⟩
def tab (r c : Nat) (f : Nat → Nat → Int) : List (List Int) := vec r fun i => vec c (f i)
def ent (m : List (List Int)) (i j : Nat) : Int := (m.getD i []).getD j 0
theorem ent_at {m : List (List Int)} {i j : Nat} {xs : List Int} {x : Int} (h1 : m[i]? = some xs) (h2 : xs[j]? = some x) : ent m i j = x := by
  simp [ent, List.getD_eq_getElem?_getD, h1, h2]
theorem ent_row {m : List (List Int)} {i j : Nat} {xs : List Int} (h1 : m[i]? = some xs) : ent m i j = xs.getD j 0 := by
  simp [ent, List.getD_eq_getElem?_getD, h1]
theorem ent_tab {r c i j : Nat} (f : Nat → Nat → Int) (hi : i < r) (hj : j < c) : ent (tab r c f) i j = f i j := ent_at (vec_at _ hi) (vec_at _ hj)
theorem tab_length (r c : Nat) (f : Nat → Nat → Int) : (tab r c f).length = r := vec_length _ _
theorem tab_width {r c : Nat} (f : Nat → Nat → Int) (h : 0 < r) : ((tab r c f).headD []).length = c := by
  obtain ⟨m, rfl⟩ : ∃ m, r = m + 1 := ⟨r - 1, by omega⟩
  simp [tab, vec, List.range_succ_eq_map]
theorem tab_congr {r c : Nat} {f g : Nat → Nat → Int} (h : ∀ i j, i < r → j < c → f i j = g i j) : tab r c f = tab r c g := vec_congr fun i hi => vec_congr fun j hj => h i j hi hj
theorem list_ext_getD {xs ys : List Int} (hl : xs.length = ys.length) (h : ∀ j, j < xs.length → xs.getD j 0 = ys.getD j 0) : xs = ys := by
  refine List.ext_getElem hl fun i h1 h2 => ?_
  have := h i h1
  simpa [List.getD_eq_getElem?_getD, h1, h2] using this
/-- sums over the first n indices -/
def sumK (n : Nat) (f : Nat → Int) : Int := match n with | 0 => 0 | k + 1 => sumK k f + f k
theorem sumK_congr {n : Nat} {f g : Nat → Int} (h : ∀ i, i < n → f i = g i) : sumK n f = sumK n g := by
  induction n with
  | zero => rfl
  | succ n ih => simp only [sumK]; rw [ih (fun i hi => h i (by omega)), h n (by omega)]
theorem dotK_sum (xs ys : List Int) (n : Nat) : dotK xs ys n = sumK n fun j => xs.getD j 0 * ys.getD j 0 := by
  induction n with
  | zero => rfl
  | succ n ih => simp only [dotK, sumK, ih]

/-! one entry of an owned table -/
def upd (f : Nat → Nat → Int) (k i : Nat) (x : Int) : Nat → Nat → Int := fun a b => if a = k ∧ b = i then x else f a b
theorem vec_set {α : Type} {n i : Nat} (f : Nat → α) (x : α) : (vec n f).set i x = vec n (fun j => if j = i then x else f j) := by
  refine List.ext_getElem? fun j => ?_
  rw [List.getElem?_set]
  by_cases hj : j < n
  · rw [vec_at _ hj, vec_at _ hj]
    by_cases e : i = j
    · subst e
      rw [if_pos rfl, if_pos (by rw [vec_length]; exact hj)]
      simp
    · rw [if_neg e]
      show some (f j) = some (if j = i then x else f j)
      rw [if_neg (fun h => e h.symm)]
  · rw [List.getElem?_eq_none (by rw [vec_length]; omega), List.getElem?_eq_none (by rw [vec_length]; omega)]
    split
    · rw [if_neg (by rw [vec_length]; omega)]
    · rfl
theorem tab_set {r c k : Nat} (f : Nat → Nat → Int) (i : Nat) (x : Int) : (tab r c f).set k ((vec c (f k)).set i x) = tab r c (upd f k i x) := by
  unfold tab
  rw [vec_set, vec_set]
  refine vec_congr fun a _ => ?_
  by_cases e : a = k
  · subst e
    rw [if_pos rfl]
    exact vec_congr fun b _ => by simp [upd]
  · rw [if_neg e]
    exact vec_congr fun b _ => by simp [upd, e]
theorem tab_row {r c k : Nat} (f : Nat → Nat → Int) (h : k < r) : (tab r c f)[k]? = some (vec c (f k)) := vec_at _ h
theorem OwnM.shape {w : World} {B : Nat} {v : Value} {xss : List (List Int)} (h : OwnM w B v xss) : (v = .slice none 0 0 ∧ xss = []) ∨ ∃ g cap, v = .slice (some ⟨g, 0, none⟩) xss.length cap ∧ B ≤ g ∧ g < w.heap.size := by
  obtain ⟨us, ho, hlen, _⟩ := h
  rcases ho.shape with ⟨h1, h2⟩ | ⟨g, cap, h1, h2, h3, _⟩
  · subst h2; exact .inl ⟨h1, List.eq_nil_of_length_eq_zero hlen.symm⟩
  · exact .inr ⟨g, cap, by rw [← hlen]; exact h1, h2, h3⟩
theorem OwnM.shape' {w : World} {B : Nat} {v : Value} {xss : List (List Int)} (h : OwnM w B v xss) (hp : 0 < xss.length) : ∃ g cap, v = .slice (some ⟨g, 0, none⟩) xss.length cap ∧ B ≤ g ∧ g < w.heap.size := by
  rcases h.shape with ⟨_, h2⟩ | h
  · subst h2; exact absurd hp (by simp)
  · exact h
/-- what the walk wants to know where an entry of an owned table is read or written -/
theorem OwnM.entry {w : World} {B g n cap : Nat} {xss : List (List Int)} {k i : Nat} {xs : List Int} {y : Int} (h : OwnM w B (.slice (some ⟨g, 0, none⟩) n cap) xss) (hx : xss[k]? = some xs) (hy : xs[i]? = some y) :
    ∃ gk ck, w.cell? ⟨g, k, none⟩ = some (.slice (some ⟨gk, 0, none⟩) xs.length ck) ∧ w.cell? ⟨gk, i, none⟩ = some (vi y) ∧ w.frozen? ⟨gk, i, none⟩ = false ∧ B ≤ gk ∧ gk ≠ g ∧
      ∀ x, OwnM (w.setCell ⟨gk, i, none⟩ (vi x)) B (.slice (some ⟨g, 0, none⟩) n cap) (xss.set k (xs.set i x)) := by
  obtain ⟨us, ho, hlen, hr, ha⟩ := h
  have hk := (List.getElem?_eq_some_iff.1 hx).1
  obtain ⟨u, hu⟩ : ∃ u, us[k]? = some u := ⟨us[k]'(by omega), by simp⟩
  have hrow := hr k u xs hu hx
  rcases hrow.shape with ⟨_, hnil⟩ | ⟨gk, ck, rfl, hB, hlt, _⟩
  · rw [List.map_eq_nil_iff] at hnil; subst hnil; simp at hy
  · rw [List.length_map] at hu hrow
    have hne : gk ≠ g := fun e => Own.other ho hrow (by decide) rfl (by rw [e]; rfl)
    refine ⟨gk, ck, Own.cell ho hu, Own.cell hrow (u := vi y) (by simp [hy]), Own.frozen hrow i, hB, hne, fun x => ⟨us, ?_, by simp [hlen], ?_, ha⟩⟩
    · exact Own.keepOther (a := ⟨gk, i, none⟩) ho (fun e => hne (by cases e; rfl)) _
    · intro j u' xs' h1 h2
      rw [List.getElem?_set] at h2
      by_cases e : k = j
      · subst e
        rw [if_pos rfl, if_pos hk] at h2
        rw [hu] at h1
        cases h1; cases h2
        have := Own.store hrow i (vi x)
        rw [← List.map_set] at this
        exact this
      · rw [if_neg e] at h2
        refine Own.keepOther (a := ⟨gk, i, none⟩) (hr j u' xs' h1 h2) (fun hb => ?_) _
        exact ha k j _ u' hu h1 e gk rfl hb
/-- .. where a row of an owned table is read -/
theorem OwnM.rowAt {w : World} {B g n cap : Nat} {xss : List (List Int)} {k : Nat} {xs : List Int} (h : OwnM w B (.slice (some ⟨g, 0, none⟩) n cap) xss) (hx : xss[k]? = some xs) :
    ∃ u, w.cell? ⟨g, k, none⟩ = some u ∧ OwnI w B u xs := by
  obtain ⟨us, ho, hlen, hr, ha⟩ := h
  have hk := (List.getElem?_eq_some_iff.1 hx).1
  obtain ⟨u, hu⟩ : ∃ u, us[k]? = some u := ⟨us[k]'(by omega), by simp⟩
  exact ⟨u, Own.cell ho hu, hr k u xs hu hx⟩
theorem own_zeros (w : World) (n : Nat) (h : n ≤ 1000000) : OwnI (w.alloc (.cells (madeCells #[.int .i64 0] n) 2)) w.heap.size (.slice (some ⟨w.heap.size, 0, none⟩) n n) (vec n fun _ => 0) := by
  have h1 := Own.made (B := w.heap.size) w 2 (vi 0) n (Nat.le_refl _) (by unfold maxLen; omega)
  have e : (vec n fun _ => (0 : Int)).map vi = List.replicate n (vi 0) := by simp [vec, List.map_const']
  unfold OwnI
  rw [e]
  exact h1
end Go.Proofs.Ytmbcncmmgfnlmaa
