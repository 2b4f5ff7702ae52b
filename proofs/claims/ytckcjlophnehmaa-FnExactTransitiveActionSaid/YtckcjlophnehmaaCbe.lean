/- Cubes (lists of tables) that a call owns: one more table, one entry; cubes told by their entries. -/
import Derived.Test.YtckcjlophnehmaaCub
import Derived.Test.YtckcjlophnehmaaApp
import Derived.Maps.AppendAt
namespace Go.Proofs.Ytckcjlophnehmaa
open Go.RowKit

theorem OwnCB.slice {w : World} {lo hi : Nat} {v : Value} {c : List (List (List Int))} (h : OwnCB w lo hi v c) : ∃ p n c, v = .slice p n c := by
  obtain ⟨us, bd, ho, _⟩ := h; exact Own.slice ho
theorem OwnCB.shape {w : World} {lo hi : Nat} {v : Value} {c : List (List (List Int))} (h : OwnCB w lo hi v c) : (v = .slice none 0 0 ∧ c = []) ∨ ∃ g cap, v = .slice (some ⟨g, 0, none⟩) c.length cap ∧ lo ≤ g ∧ g < hi := by
  obtain ⟨us, bd, ho, hlen, hr, ha, hg⟩ := h
  rcases ho.shape with ⟨h1, h2⟩ | ⟨g, cap, rfl, h2, h3, _⟩
  · subst h2; exact .inl ⟨h1, List.eq_nil_of_length_eq_zero hlen.symm⟩
  · exact .inr ⟨g, cap, by rw [← hlen], h2, (hg g rfl).1⟩
theorem OwnCB.shape' {w : World} {lo hi : Nat} {v : Value} {c : List (List (List Int))} (h : OwnCB w lo hi v c) (hp : 0 < c.length) : ∃ g cap, v = .slice (some ⟨g, 0, none⟩) c.length cap ∧ lo ≤ g ∧ g < hi := by
  rcases h.shape with ⟨_, h2⟩ | h
  · subst h2; exact absurd hp (by simp)
  · exact h
theorem OwnCB.alloc {w : World} {lo hi : Nat} {v : Value} {c : List (List (List Int))} (h : OwnCB w lo hi v c) (hh : hi ≤ w.heap.size) (o : Obj) : OwnCB (w.alloc o) lo hi v c :=
  h.keep (below_alloc w o) hh
theorem ownCB_empty (w : World) (B : Nat) (hB : B ≤ w.heap.size) : OwnCB (w.alloc (.cells #[] 22)) B (w.heap.size + 1) (.slice (some ⟨w.heap.size, 0, none⟩) 0 0) [] :=
  ⟨[], fun _ => (0, 0), own_empty _ _ _ hB, rfl, fun i u m h => by simp at h, fun i j _ h => by simp at h, fun g e => by cases e; exact ⟨Nat.lt_succ_self _, fun i hi => by simp at hi⟩⟩

theorem OwnCB.push {w0 w w' : World} {B : Nat} {v v' : Value} {p : Option Addr} {n cc : Nat} {c : List (List (List Int))} {m : List (List Int)} {us : List Value} {bd : Nat → Nat × Nat} (h1 : Own w0 22 B v us) (h2 : us.length = c.length)
    (h3 : ∀ (i : Nat) (u : Value) (m : List (List Int)), us[i]? = some u → c[i]? = some m → OwnB w0 (bd i).1 (bd i).2 u m ∧ B ≤ (bd i).1 ∧ (bd i).2 ≤ w0.heap.size)
    (h4 : ∀ i j, i < j → j < us.length → (bd i).2 ≤ (bd j).1)
    (h5 : ∀ g, v.ownBlock = some g → g < w0.heap.size ∧ ∀ i, i < us.length → g < (bd i).1 ∨ (bd i).2 ≤ g)
    (hb : Below w0.heap.size w0 w) (hu : OwnM w w0.heap.size (.slice p n cc) m) (hB : B ≤ w0.heap.size)
    (g1 : w'.ownsRow B 22 1 v' (us.length + 1) (us ++ [.slice p n cc])) (g2 : (w.alloc (.cells #[.slice p n cc] 22)).grownBy w' v.ownBlock)
    (g4 : v'.ownBlock = v.ownBlock ∨ v'.ownBlock = some (w.alloc (.cells #[.slice p n cc] 22)).heap.size) :
    OwnCB w' B w'.heap.size v' (c ++ [m]) ∧ Below B w w' := by
  have hsz := hb.size
  have g1' : Own w' 22 B v' (us ++ [.slice p n cc]) := Own.push g1
  have hbel : Below B w w' := grown_below (h1.keep hb) (by omega) g2
  have hz2 := g2.size
  simp at hz2
  have stay : ∀ k, k < w.heap.size → v.ownBlock ≠ some k → w'.heap[k]? = w.heap[k]? := fun k hk hne => by
    rw [g2.block k (by simp; omega) (fun e => hne e.symm)]
    exact Below.heap_alloc _ _ _ hk
  refine ⟨⟨us ++ [.slice p n cc], fun i => if i = us.length then (w0.heap.size, w.heap.size) else bd i, g1', by simp [h2], ?_, ?_, ?_⟩, hbel⟩
  · intro j u' m' e1 e2
    rcases Nat.lt_trichotomy j us.length with hj | hj | hj
    · rw [List.getElem?_append_left hj] at e1
      rw [List.getElem?_append_left (by omega)] at e2
      obtain ⟨q1, q2, q3⟩ := h3 j u' m' e1 e2
      dsimp only
      rw [if_neg (by omega)]
      refine ⟨(q1.keep hb q3).same fun k k1 k2 => stay k (by omega) (fun e => ?_), q2, by omega⟩
      have := (h5 k e).2 j hj
      omega
    · rw [List.getElem?_append_right (by omega)] at e1
      rw [List.getElem?_append_right (by omega)] at e2
      rw [hj, Nat.sub_self] at e1
      rw [hj, h2, Nat.sub_self] at e2
      cases e1; cases e2
      dsimp only
      rw [if_pos hj]
      refine ⟨hu.bound.same fun k k1 k2 => stay k k2 (fun e => ?_), hB, by omega⟩
      have := (h5 k e).1
      omega
    · rw [List.getElem?_eq_none (by simp; omega)] at e1
      cases e1
  · intro i j hij hj
    simp at hj
    dsimp only
    by_cases e : j = us.length
    · rw [if_pos e, if_neg (by omega)]
      have hi : i < us.length := by omega
      exact (h3 i _ _ (List.getElem?_eq_getElem hi) (List.getElem?_eq_getElem (by omega))).2.2
    · rw [if_neg e, if_neg (by omega)]
      exact h4 i j hij (by omega)
  · intro g hg
    rcases g4 with e | e
    · rw [e] at hg
      have h6 := h5 g hg
      refine ⟨by omega, fun i hi => ?_⟩
      simp at hi
      dsimp only
      by_cases e : i = us.length
      · rw [if_pos e]; exact .inl h6.1
      · rw [if_neg e]; exact h6.2 i (by omega)
    · rw [e] at hg
      cases hg
      have h7 := (g1'.lt e).2
      simp at h7 ⊢
      refine ⟨by omega, fun i hi => ?_⟩
      by_cases e : i = us.length
      · rw [if_pos e]; exact .inr (by simp)
      · rw [if_neg e]
        have hi : i < us.length := by omega
        have := (h3 i _ _ (List.getElem?_eq_getElem hi) (List.getElem?_eq_getElem (by omega))).2.2
        omega
/-- append of one new table -/
theorem wp_pushC {ops : Array Oper} {rest : List Oper} {o : Oper} {a : Act} {Q : Exit → Act → World → Prop} {w0 w : World} {B : Nat} {v u : Value} {c : List (List (List Int))} {m : List (List Int)} (hown : OwnCB w0 B w0.heap.size v c) (hb : Below w0.heap.size w0 w) (hu : OwnM w w0.heap.size u m) (hgd : o.guard = none) (s x : Operand)
    (ho : o.op = .call { callee := .builtin .append, args := #[s, x], argTypes := #[30, 30] })
    (hs : a.eval s = v) {gx : Nat} (hx : a.eval x = .slice (some ⟨gx, 0, none⟩) 1 1) (hgx : gx = w.heap.size)
    (hB : B ≤ w0.heap.size) (hlen : c.length ≤ 1000000)
    (h : ∀ v' w', OwnCB w' B w'.heap.size v' (c ++ [m]) → Below B w w' → wpList Try.prog ops Q rest (a.put o.dst v') w') :
    wpList Try.prog ops Q (o :: rest) a (w.alloc (.cells #[u] 22)) := by
  subst hgx
  obtain ⟨us, bd, h1, h2, h3, h4, h5⟩ := hown
  obtain ⟨p, n, cc, rfl⟩ : ∃ p n c, u = .slice p n c := by obtain ⟨us, h1, _⟩ := hu; exact h1.slice
  obtain ⟨i, hi, hz0, hz1', hz2⟩ := info_parts info_rows
  have hsz := hb.size
  refine wpList_append_own_at _ hgd s x _ ho B 22 i (.slice none 0 0) 1 24 Try.underlying30 hi hz0 hz1' hz2 rfl (by omega) v us.length us hs (World.ownsRow.alloc (h1.keep hb) _) ⟨w.heap.size, 0, none⟩ 1 1 [.slice p n cc] hx rfl (cell_one_new _ _ _) ?_ ?_ ?_ ?_ ?_
  · intro u' hu'
    simp at hu'
    subst hu'
    rfl
  · unfold maxLen; omega
  · have : (us.length + 1) * 24 ≤ 1000001 * 24 := Nat.mul_le_mul (by omega) (Nat.le_refl _)
    omega
  · simp; omega
  · intro v' w' g1 g2 _ g4
    obtain ⟨q1, q2⟩ := OwnCB.push h1 h2 h3 h4 h5 hb hu hB g1 g2 g4
    exact h v' w' q1 q2
/-- the same as a step of a region that draws its order -/
theorem step_pushC {ops : Array Oper} {o : Oper} {a : Act} {K : Act → World → Prop} {Q : Exit → Act → World → Prop} {E : Prop} {w0 w : World} {B : Nat} {v u : Value} {c : List (List (List Int))} {m : List (List Int)} (hown : OwnCB w0 B w0.heap.size v c) (hb : Below w0.heap.size w0 w) (hu : OwnM w w0.heap.size u m) (hgd : o.guard = none) (s x : Operand)
    (ho : o.op = .call { callee := .builtin .append, args := #[s, x], argTypes := #[30, 30] })
    (hs : a.eval s = v) {gx : Nat} (hx : a.eval x = .slice (some ⟨gx, 0, none⟩) 1 1) (hgx : gx = w.heap.size)
    (hB : B ≤ w0.heap.size) (hlen : c.length ≤ 1000000)
    (h : ∀ v' w', OwnCB w' B w'.heap.size v' (c ++ [m]) → Below B w w' → K (a.put o.dst v') w') :
    if Region.wanted o (yielded ops a.tmps) = true then Oper.wp Try.prog o a (w.alloc (.cells #[u] 22)) K Q else E := by
  have hw : Region.wanted o (yielded ops a.tmps) = true := by simp [Region.wanted, hgd]
  rw [if_pos hw]
  subst hgx
  obtain ⟨us, bd, h1, h2, h3, h4, h5⟩ := hown
  obtain ⟨p, n, cc, rfl⟩ : ∃ p n c, u = .slice p n c := by obtain ⟨us, h1, _⟩ := hu; exact h1.slice
  obtain ⟨i, hi, hz0, hz1', hz2⟩ := info_parts info_rows
  have hsz := hb.size
  obtain ⟨v', w', hr, g1, g2, _, g4⟩ := run_append_own_at (P := Try.prog) (w.alloc (.cells #[.slice p n cc] 22)) B 30 o.type 22 i (.slice none 0 0) 1 24 Try.underlying30 hi hz0 hz1' hz2 rfl (by omega) v us.length us (World.ownsRow.alloc (h1.keep hb) _) ⟨w.heap.size, 0, none⟩ 1 1 [.slice p n cc] rfl (cell_one_new _ _ _) (fun u' hu' => by simp at hu'; subst hu'; rfl) (by unfold maxLen; omega) (by omega) (by simp; omega)
  unfold Oper.wp execOp
  simp only [ho, resolve, invoke, builtin, Sem.run_bind, Sem.run_pure, Result.andThen_ok, List.map_toArray, List.map_cons, List.map_nil, hs, hx, hr]
  obtain ⟨q1, q2⟩ := OwnCB.push h1 h2 h3 h4 h5 hb hu hB g1 g2 g4
  exact h v' w' q1 q2

/-- what the walk wants to know where an entry of bounded rows is read or written -/
theorem OwnB.entry {w : World} {lo hi g n cap : Nat} {xss : List (List Int)} {k i : Nat} {xs : List Int} {y : Int} (h : OwnB w lo hi (.slice (some ⟨g, 0, none⟩) n cap) xss) (hx : xss[k]? = some xs) (hy : xs[i]? = some y) :
    ∃ gk ck, w.cell? ⟨g, k, none⟩ = some (.slice (some ⟨gk, 0, none⟩) xs.length ck) ∧ w.cell? ⟨gk, i, none⟩ = some (vi y) ∧ w.frozen? ⟨gk, i, none⟩ = false ∧ lo ≤ gk ∧ gk < hi ∧ gk ≠ g ∧
      ∀ x, OwnB (w.setCell ⟨gk, i, none⟩ (vi x)) lo hi (.slice (some ⟨g, 0, none⟩) n cap) (xss.set k (xs.set i x)) := by
  obtain ⟨us, ho, hlen, hr, ha, hb1, hb2⟩ := h
  have hk := (List.getElem?_eq_some_iff.1 hx).1
  obtain ⟨u, hu⟩ : ∃ u, us[k]? = some u := ⟨us[k]'(by omega), by simp⟩
  have hrow := hr k u xs hu hx
  rcases hrow.shape with ⟨_, hnil⟩ | ⟨gk, ck, rfl, hB, hlt, _⟩
  · rw [List.map_eq_nil_iff] at hnil; subst hnil; simp at hy
  · rw [List.length_map] at hu hrow
    have hne : gk ≠ g := fun e => Own.other ho hrow (by decide) rfl (by rw [e]; rfl)
    refine ⟨gk, ck, Own.cell ho hu, Own.cell hrow (u := vi y) (by simp [hy]), Own.frozen hrow i, hB, hb2 k _ hu gk rfl, hne, fun x => ⟨us, ?_, by simp [hlen], ?_, ha, hb1, hb2⟩⟩
    · exact Own.keepOther (a := ⟨gk, i, none⟩) ho (fun e => hne (by cases e; rfl)) _
    · intro j u' xs' h1 h2
      rw [List.getElem?_set] at h2
      by_cases e : k = j
      · subst e
        rw [if_pos rfl, if_pos hk] at h2
        rw [hu] at h1
        cases h1; cases h2
        have := Own.store hrow i (vi x)
        rw [← List.map_set] at this
        exact this
      · rw [if_neg e] at h2
        refine Own.keepOther (a := ⟨gk, i, none⟩) (hr j u' xs' h1 h2) (fun hb => ?_) _
        exact ha k j _ u' hu h1 e gk rfl hb
theorem OwnB.len {w : World} {lo hi g n cap : Nat} {s : Option Nat} {o : Nat} {xss : List (List Int)} (h : OwnB w lo hi (.slice (some ⟨g, o, s⟩) n cap) xss) : n = xss.length := by
  obtain ⟨us, ho, hlen, _⟩ := h
  rw [Own.len ho, hlen]
/-- .. of a cube -/
theorem OwnCB.entry {w : World} {lo hi g n cap : Nat} {c : List (List (List Int))} {i j k : Nat} {m : List (List Int)} {xs : List Int} {y : Int} (h : OwnCB w lo hi (.slice (some ⟨g, 0, none⟩) n cap) c) (hm : c[i]? = some m) (hx : m[j]? = some xs) (hy : xs[k]? = some y) :
    ∃ g1 c1 g2 c2, w.cell? ⟨g, i, none⟩ = some (.slice (some ⟨g1, 0, none⟩) m.length c1) ∧ w.cell? ⟨g1, j, none⟩ = some (.slice (some ⟨g2, 0, none⟩) xs.length c2) ∧ w.cell? ⟨g2, k, none⟩ = some (vi y) ∧ w.frozen? ⟨g2, k, none⟩ = false ∧ lo ≤ g2 ∧ g2 < hi ∧ g2 ≠ g ∧ g2 ≠ g1 ∧
      ∀ x, OwnCB (w.setCell ⟨g2, k, none⟩ (vi x)) lo hi (.slice (some ⟨g, 0, none⟩) n cap) (c.set i (m.set j (xs.set k x))) := by
  obtain ⟨us, bd, ho, hlen, hr, ha, hg⟩ := h
  have hi' := (List.getElem?_eq_some_iff.1 hm).1
  obtain ⟨u, hu⟩ : ∃ u, us[i]? = some u := ⟨us[i]'(by omega), by simp⟩
  obtain ⟨hmat, hlo, hhi⟩ := hr i u m hu hm
  have hsh : ∃ g1 c1, u = .slice (some ⟨g1, 0, none⟩) m.length c1 := by
    rcases hmat.own.shape with ⟨_, e⟩ | ⟨g1, c1, e, _⟩
    · subst e; simp at hx
    · exact ⟨g1, c1, e⟩
  obtain ⟨g1, c1, rfl⟩ := hsh
  obtain ⟨g2, c2, e1, e2, e3, e4, e5, e6, e7⟩ := hmat.entry hx hy
  have hil : i < us.length := by omega
  have hne : g2 ≠ g := fun e => by have := (hg g rfl).2 i hil; omega
  refine ⟨g1, c1, g2, c2, Own.cell ho hu, e1, e2, e3, by omega, by omega, hne, e6, fun x => ⟨us, bd, ?_, by simp [hlen], ?_, ha, hg⟩⟩
  · exact Own.keepOther (a := ⟨g2, k, none⟩) ho (fun e => hne (by cases e; rfl)) _
  · intro j' u' m' h1 h2
    rw [List.getElem?_set] at h2
    by_cases e : i = j'
    · subst e
      rw [if_pos rfl, if_pos hi'] at h2
      rw [hu] at h1
      cases h1; cases h2
      exact ⟨e7 x, hlo, hhi⟩
    · rw [if_neg e] at h2
      obtain ⟨q1, q2, q3⟩ := hr j' u' m' h1 h2
      have hj' := (List.getElem?_eq_some_iff.1 h1).1
      refine ⟨q1.same fun b b1 b2 => Below.heap_setCell _ _ _ _ (fun hh => ?_), q2, q3⟩
      simp at hh
      subst hh
      rcases Nat.lt_or_gt_of_ne e with h | h
      · have := ha i j' h hj'; omega
      · have := ha j' i h hil; omega

/-! cubes by entries -/
def cub (n : Nat) (f : Nat → Nat → Nat → Int) : List (List (List Int)) := vec n fun i => tab n n (f i)
def upd3 (f : Nat → Nat → Nat → Int) (i j k : Nat) (x : Int) : Nat → Nat → Nat → Int := fun a b c => if a = i ∧ b = j ∧ c = k then x else f a b c
theorem cub_length (n : Nat) (f : Nat → Nat → Nat → Int) : (cub n f).length = n := vec_length _ _
theorem cub_congr {n : Nat} {f g : Nat → Nat → Nat → Int} (h : ∀ i j k, i < n → j < n → k < n → f i j k = g i j k) : cub n f = cub n g :=
  vec_congr fun i hi => tab_congr fun j k hj hk => h i j k hi hj hk
theorem cub_set {n : Nat} (f : Nat → Nat → Nat → Int) (i j k : Nat) (x : Int) : (cub n f).set i ((tab n n (f i)).set j ((vec n (f i j)).set k x)) = cub n (upd3 f i j k x) := by
  unfold cub
  rw [tab_set, vec_set]
  refine vec_congr fun a _ => ?_
  by_cases e : a = i
  · subst e
    rw [if_pos rfl]
    exact tab_congr fun b c _ _ => by simp [upd, upd3]
  · rw [if_neg e]
    exact tab_congr fun b c _ _ => by simp [upd3, e]
/-- .. at an entry of a cube told by its entries -/
theorem OwnCB.at {w : World} {lo hi g N cap n : Nat} {f : Nat → Nat → Nat → Int} (h : OwnCB w lo hi (.slice (some ⟨g, 0, none⟩) N cap) (cub n f)) {i j k : Nat} (hi' : i < n) (hj : j < n) (hk : k < n) :
    ∃ g1 c1 g2 c2, w.cell? ⟨g, i, none⟩ = some (.slice (some ⟨g1, 0, none⟩) n c1) ∧ w.cell? ⟨g1, j, none⟩ = some (.slice (some ⟨g2, 0, none⟩) n c2) ∧ w.cell? ⟨g2, k, none⟩ = some (vi (f i j k)) ∧ w.frozen? ⟨g2, k, none⟩ = false ∧ lo ≤ g2 ∧ g2 < hi ∧ g2 ≠ g ∧ g2 ≠ g1 ∧
      ∀ x, OwnCB (w.setCell ⟨g2, k, none⟩ (vi x)) lo hi (.slice (some ⟨g, 0, none⟩) N cap) (cub n (upd3 f i j k x)) := by
  obtain ⟨g1, c1, g2, c2, e1, e2, e3, e4, e5, e6, e7, e8, e9⟩ := h.entry (c := cub n f) (m := tab n n (f i)) (xs := vec n (f i j)) (y := f i j k) (i := i) (j := j) (k := k) (vec_at _ hi') (tab_row _ hj) (vec_at _ hk)
  rw [tab_length] at e1
  rw [vec_length] at e2
  exact ⟨g1, c1, g2, c2, e1, e2, e3, e4, e5, e6, e7, e8, fun x => by rw [← cub_set]; exact e9 x⟩
end Go.Proofs.Ytckcjlophnehmaa
