/- Transitive actions: plain laws: groups of sums, cosets, their least members. -/
import Derived.Test.YtckcjlophnehmaaRgr
namespace Go.Proofs.Ytckcjlophnehmaa
open Go.RowKit
/-- a finite commutative group on 0 .. n - 1 -/
structure Gp (n : Nat) (g : Nat → Nat → Nat) : Prop where
  pos : 0 < n
  lt : ∀ a b, g a b < n
  comm : ∀ a b, g a b = g b a
  assoc : ∀ a b c, g (g a b) c = g a (g b c)
  zero : ∀ a, a < n → g a 0 = a
  cancel : ∀ a b c, b < n → c < n → g a b = g a c → b = c
theorem low_eq {u v m : Nat} (hu : u < m) (hv : v < m) : (u + v) % m = if u + v < m then u + v else u + v - m := by
  split
  · exact Nat.mod_eq_of_lt (by assumption)
  · rw [Nat.mod_eq_sub_mod (by omega)]
    exact Nat.mod_eq_of_lt (by omega)
theorem addI_comm {m : Nat → Nat} : ∀ k a b, addI m k a b = addI m k b a
  | 0, _, _ => rfl
  | k + 1, a, b => by simp only [addI]; rw [addI_comm k, Nat.add_comm (a % m k)]
theorem addI_mod {m : Nat → Nat} {k a b : Nat} (hm : 1 ≤ m k) : addI m (k + 1) a b % m k = (a % m k + b % m k) % m k ∧ addI m (k + 1) a b / m k = addI m k (a / m k) (b / m k) := by
  simp only [addI]
  have h := Nat.mod_lt (a % m k + b % m k) (show m k > 0 from hm)
  constructor
  · rw [Nat.add_mul_mod_self_left, Nat.mod_mod]
  · rw [Nat.add_mul_div_left _ _ hm, Nat.div_eq_of_lt h, Nat.zero_add]
theorem low_assoc (x y z m : Nat) : ((x + y) % m + z) % m = (x + (y + z) % m) % m := by rw [Nat.mod_add_mod, Nat.add_mod_mod, Nat.add_assoc]
theorem addI_assoc {m : Nat → Nat} : ∀ k, (∀ j, j < k → 1 ≤ m j) → ∀ a b c, addI m k (addI m k a b) c = addI m k a (addI m k b c)
  | 0, _, _, _, _ => rfl
  | k + 1, h, a, b, c => by
    have h1 := addI_mod (a := a) (b := b) (h k (by omega))
    have h2 := addI_mod (a := b) (b := c) (h k (by omega))
    have e1 : addI m (k + 1) (addI m (k + 1) a b) c = (addI m (k + 1) a b % m k + c % m k) % m k + m k * addI m k (addI m (k + 1) a b / m k) (c / m k) := rfl
    have e2 : addI m (k + 1) a (addI m (k + 1) b c) = (a % m k + addI m (k + 1) b c % m k) % m k + m k * addI m k (a / m k) (addI m (k + 1) b c / m k) := rfl
    rw [e1, e2, h1.1, h1.2, h2.1, h2.2, addI_assoc k (fun j hj => h j (by omega)), low_assoc]
theorem addI_zero {m : Nat → Nat} : ∀ k, (∀ j, j < k → 1 ≤ m j) → ∀ a, a < prodI m k → addI m k a 0 = a
  | 0, _, a, h => by simp [prodI] at h; simp [addI, h]
  | k + 1, h, a, ha => by
    have hm := h k (by omega)
    simp only [addI, prodI] at ha ⊢
    rw [Nat.zero_div, addI_zero k (fun j hj => h j (by omega)) _ ((Nat.div_lt_iff_lt_mul hm).2 (by rw [Nat.mul_comm]; exact ha)), Nat.zero_mod, Nat.add_zero, Nat.mod_mod]
    exact Nat.mod_add_div _ _
theorem addI_cancel {m : Nat → Nat} : ∀ k, (∀ j, j < k → 1 ≤ m j) → ∀ a b c, b < prodI m k → c < prodI m k → addI m k a b = addI m k a c → b = c
  | 0, _, a, b, c, hb, hc, _ => by simp [prodI] at hb hc; omega
  | k + 1, h, a, b, c, hb, hc, e => by
    have hm := h k (by omega)
    have h1 := addI_mod (m := m) (k := k) (a := a) (b := b) hm
    have h2 := addI_mod (m := m) (k := k) (a := a) (b := c) hm
    rw [e] at h1
    have e1 := h1.1.symm.trans h2.1
    have e2 := h1.2.symm.trans h2.2
    simp only [prodI] at hb hc
    have e3 := addI_cancel k (fun j hj => h j (by omega)) _ _ _ ((Nat.div_lt_iff_lt_mul hm).2 (by rw [Nat.mul_comm]; exact hb)) ((Nat.div_lt_iff_lt_mul hm).2 (by rw [Nat.mul_comm]; exact hc)) e2
    have l1 := Nat.mod_lt a (show m k > 0 from hm)
    have l2 := Nat.mod_lt b (show m k > 0 from hm)
    have l3 := Nat.mod_lt c (show m k > 0 from hm)
    rw [low_eq l1 l2, low_eq l1 l3] at e1
    have e4 : b % m k = c % m k := by
      generalize b % m k = x at *
      generalize c % m k = y at *
      generalize a % m k = z at *
      split at e1 <;> split at e1 <;> omega
    have r1 := Nat.mod_add_div b (m k)
    have r2 := Nat.mod_add_div c (m k)
    rw [e4, e3] at r1
    exact r1.symm.trans r2
theorem gp_addI {m : Nat → Nat} {k : Nat} (h : ∀ j, j < k → 1 ≤ m j) : Gp (prodI m k) (addI m k) :=
  ⟨prodI_pos k h, fun a b => addI_lt k a b h, addI_comm k, addI_assoc k h, addI_zero k h, addI_cancel k h⟩
/-- as many without twins in a list no longer: all of it -/
theorem pigeon : ∀ (l l' : List Nat), l.Nodup → (∀ x ∈ l, x ∈ l') → l'.length ≤ l.length → ∀ x ∈ l', x ∈ l
  | [], l', _, _, hl, x, hx => by
    have : l' = [] := List.length_eq_zero_iff.1 (by simpa using hl)
    rw [this] at hx; cases hx
  | a :: l, l', hn, hs, hl, x, hx => by
    by_cases e : x = a
    · rw [e]; exact List.mem_cons_self
    · refine List.mem_cons_of_mem _ (pigeon l (l'.erase a) (List.nodup_cons.1 hn).2 (fun y hy => ?_) ?_ x ?_)
      · have hne : y ≠ a := fun h => (List.nodup_cons.1 hn).1 (h ▸ hy)
        exact (List.mem_erase_of_ne hne).2 (hs y (List.mem_cons_of_mem _ hy))
      · rw [List.length_erase_of_mem (hs a List.mem_cons_self)]
        simp at hl; omega
      · exact (List.mem_erase_of_ne e).2 hx
/-- a list of numbers that is closed -/
structure Sg (n : Nat) (g : Nat → Nat → Nat) (H : List Nat) : Prop where
  gp : Gp n g
  lt : ∀ x ∈ H, x < n
  nodup : H.Nodup
  closed : ∀ x ∈ H, ∀ y ∈ H, g x y ∈ H
  ne : H ≠ []
theorem nodup_map {f : Nat → Nat} : ∀ {l : List Nat}, l.Nodup → (∀ x ∈ l, ∀ y ∈ l, f x = f y → x = y) → (l.map f).Nodup
  | [], _, _ => List.nodup_nil
  | a :: l, hn, hf => by
    rw [List.map_cons, List.nodup_cons]
    refine ⟨fun h => ?_, nodup_map (List.nodup_cons.1 hn).2 fun x hx y hy e => hf x (List.mem_cons_of_mem _ hx) y (List.mem_cons_of_mem _ hy) e⟩
    obtain ⟨b, hb, e⟩ := List.mem_map.1 h
    exact (List.nodup_cons.1 hn).1 (hf b (List.mem_cons_of_mem _ hb) a List.mem_cons_self e ▸ hb)
theorem Sg.onto {n : Nat} {g : Nat → Nat → Nat} {H : List Nat} (s : Sg n g H) {x : Nat} (hx : x ∈ H) {y : Nat} (hy : y ∈ H) : ∃ h ∈ H, g x h = y := by
  have h1 : (H.map (g x)).Nodup := nodup_map s.nodup fun a ha b hb e => s.gp.cancel x a b (s.lt a ha) (s.lt b hb) e
  have h2 := pigeon (H.map (g x)) H h1 (fun z hz => by obtain ⟨h, hh, rfl⟩ := List.mem_map.1 hz; exact s.closed x hx h hh) (by simp) y hy
  obtain ⟨h, hh, e⟩ := List.mem_map.1 h2
  exact ⟨h, hh, e⟩
theorem Sg.zero {n : Nat} {g : Nat → Nat → Nat} {H : List Nat} (s : Sg n g H) : 0 ∈ H := by
  obtain ⟨x, hx⟩ := List.exists_mem_of_ne_nil _ s.ne
  obtain ⟨h, hh, e⟩ := s.onto hx hx
  rw [← s.gp.cancel x h 0 (s.lt h hh) s.gp.pos (by rw [e, s.gp.zero x (s.lt x hx)])]
  exact hh
theorem Sg.inv {n : Nat} {g : Nat → Nat → Nat} {H : List Nat} (s : Sg n g H) {x : Nat} (hx : x ∈ H) : ∃ h ∈ H, g x h = 0 := s.onto hx s.zero
/-- the least member of a coset -/
def lst (g : Nat → Nat → Nat) (H : List Nat) (x : Nat) : Nat := (H.map (g x)).foldl min x
theorem foldl_min : ∀ (l : List Nat) (x : Nat), l.foldl min x ≤ x ∧ (∀ y ∈ l, l.foldl min x ≤ y) ∧ (l.foldl min x = x ∨ l.foldl min x ∈ l)
  | [], x => ⟨Nat.le_refl _, fun y hy => by (cases hy), .inl rfl⟩
  | a :: l, x => by
    obtain ⟨h1, h2, h3⟩ := foldl_min l (min x a)
    rw [List.foldl_cons]
    refine ⟨by omega, fun y hy => ?_, ?_⟩
    · rcases List.mem_cons.1 hy with rfl | hy
      · omega
      · exact h2 y hy
    · rcases h3 with h3 | h3
      · rw [h3]
        rcases Nat.le_total x a with e | e
        · left; omega
        · right; rw [show min x a = a by omega]; exact List.mem_cons_self
      · right; exact List.mem_cons_of_mem _ h3
theorem Sg.lst_le {n : Nat} {g : Nat → Nat → Nat} {H : List Nat} (_s : Sg n g H) (x : Nat) : lst g H x ≤ x := (foldl_min _ _).1
theorem Sg.lst_mem {n : Nat} {g : Nat → Nat → Nat} {H : List Nat} (s : Sg n g H) {x : Nat} (hx : x < n) : ∃ h ∈ H, lst g H x = g x h := by
  rcases (foldl_min (H.map (g x)) x).2.2 with e | e
  · exact ⟨0, s.zero, by rw [s.gp.zero x hx]; exact e⟩
  · obtain ⟨h, hh, e⟩ := List.mem_map.1 e
    exact ⟨h, hh, e.symm⟩
theorem Sg.lst_min {n : Nat} {g : Nat → Nat → Nat} {H : List Nat} (_s : Sg n g H) (x : Nat) {h : Nat} (hh : h ∈ H) : lst g H x ≤ g x h := (foldl_min _ _).2.1 _ (List.mem_map_of_mem hh)
theorem Sg.lst_lt {n : Nat} {g : Nat → Nat → Nat} {H : List Nat} (s : Sg n g H) {x : Nat} (hx : x < n) : lst g H x < n := Nat.lt_of_le_of_lt (s.lst_le x) hx
theorem Sg.lst_add {n : Nat} {g : Nat → Nat → Nat} {H : List Nat} (s : Sg n g H) {x h : Nat} (hx : x < n) (hh : h ∈ H) : lst g H (g x h) = lst g H x := by
  apply Nat.le_antisymm
  · obtain ⟨k, hk, e⟩ := s.lst_mem hx
    obtain ⟨i, hi, e2⟩ := s.inv hh
    have h1 := s.lst_min (g x h) (s.closed i hi k hk)
    rw [s.gp.assoc, ← s.gp.assoc h, e2, s.gp.comm 0, s.gp.zero k (s.lt k hk), ← e] at h1
    exact h1
  · obtain ⟨k, hk, e⟩ := s.lst_mem (s.gp.lt x h)
    rw [e, s.gp.assoc]
    exact s.lst_min x (s.closed h hh k hk)
theorem Sg.lst_lst {n : Nat} {g : Nat → Nat → Nat} {H : List Nat} (s : Sg n g H) {x : Nat} (hx : x < n) : lst g H (lst g H x) = lst g H x := by
  obtain ⟨k, hk, e⟩ := s.lst_mem hx
  have h := s.lst_add hx hk
  rw [← e] at h
  exact h
/-- each member out of the least -/
theorem Sg.of_lst {n : Nat} {g : Nat → Nat → Nat} {H : List Nat} (s : Sg n g H) {x : Nat} (hx : x < n) : ∃ h ∈ H, g (lst g H x) h = x := by
  obtain ⟨k, hk, e⟩ := s.lst_mem hx
  obtain ⟨i, hi, e2⟩ := s.inv hk
  exact ⟨i, hi, by rw [e, s.gp.assoc, e2, s.gp.zero x hx]⟩
/-- the first members below X, how many -/
def fsts (g : Nat → Nat → Nat) (H : List Nat) (X : Nat) : List Nat := (List.range X).filter fun z => lst g H z == z
def cnt (g : Nat → Nat → Nat) (H : List Nat) (X : Nat) : Nat := (fsts g H X).length
/-- the number of a coset -/
def pnt (g : Nat → Nat → Nat) (H : List Nat) (x : Nat) : Nat := cnt g H (lst g H x)
theorem fsts_succ (g : Nat → Nat → Nat) (H : List Nat) (X : Nat) : fsts g H (X + 1) = if lst g H X = X then fsts g H X ++ [X] else fsts g H X := by
  unfold fsts
  rw [List.range_succ, List.filter_append]
  split <;> rename_i h <;> simp [h]
theorem cnt_succ (g : Nat → Nat → Nat) (H : List Nat) (X : Nat) : cnt g H (X + 1) = if lst g H X = X then cnt g H X + 1 else cnt g H X := by
  unfold cnt
  rw [fsts_succ]
  split <;> simp
theorem cnt_mono (g : Nat → Nat → Nat) (H : List Nat) {X Y : Nat} (h : X ≤ Y) : cnt g H X ≤ cnt g H Y := by
  induction Y with
  | zero => rw [show X = 0 by omega]; exact Nat.le_refl _
  | succ Y ih =>
    by_cases e : X = Y + 1
    · rw [e]; exact Nat.le_refl _
    · have := ih (by omega)
      rw [cnt_succ]
      split <;> omega
theorem cnt_le (g : Nat → Nat → Nat) (H : List Nat) (X : Nat) : cnt g H X ≤ X := by
  induction X with
  | zero => simp [cnt, fsts]
  | succ X ih => rw [cnt_succ]; split <;> omega
theorem cnt_lt {g : Nat → Nat → Nat} {H : List Nat} {x X : Nat} (hx : lst g H x = x) (h : x < X) : cnt g H x < cnt g H X := by
  have h1 := cnt_mono g H (show x + 1 ≤ X from h)
  rw [cnt_succ, if_pos hx] at h1
  omega
theorem fsts_at {g : Nat → Nat → Nat} {H : List Nat} {x X : Nat} (hx : lst g H x = x) (h : x < X) : (fsts g H X)[cnt g H x]? = some x := by
  induction X with
  | zero => omega
  | succ X ih =>
    rw [fsts_succ]
    by_cases e : x = X
    · subst e
      rw [if_pos hx]
      unfold cnt
      simp
    · have h1 := ih (by omega)
      split
      · exact (List.getElem?_append_left (List.getElem?_eq_some_iff.1 h1).1).trans h1
      · exact h1
theorem fsts_is {g : Nat → Nat → Nat} {H : List Nat} {X c y : Nat} (h : (fsts g H X)[c]? = some y) : y < X ∧ lst g H y = y ∧ cnt g H y = c := by
  have hm := List.mem_of_getElem? h
  unfold fsts at hm
  simp only [List.mem_filter, List.mem_range, beq_iff_eq] at hm
  refine ⟨hm.1, hm.2, ?_⟩
  have h2 := fsts_at hm.2 hm.1
  have hnd : (fsts g H X).Nodup := List.Nodup.sublist List.filter_sublist List.nodup_range
  have h3 := (List.getElem?_eq_some_iff.1 h).1
  have h4 := (List.getElem?_eq_some_iff.1 h2).1
  refine ((List.getElem_inj hnd (h₀ := h4) (h₁ := h3)).1 ?_)
  rw [(List.getElem?_eq_some_iff.1 h).2, (List.getElem?_eq_some_iff.1 h2).2]
theorem Sg.pnt_add {n : Nat} {g : Nat → Nat → Nat} {H : List Nat} (s : Sg n g H) {x h : Nat} (hx : x < n) (hh : h ∈ H) : pnt g H (g x h) = pnt g H x := by
  unfold pnt; rw [s.lst_add hx hh]
theorem Sg.pnt_lst {n : Nat} {g : Nat → Nat → Nat} {H : List Nat} (s : Sg n g H) {x : Nat} (hx : x < n) : pnt g H (lst g H x) = pnt g H x := by
  unfold pnt; rw [s.lst_lst hx]
theorem Sg.pnt_lt {n : Nat} {g : Nat → Nat → Nat} {H : List Nat} (s : Sg n g H) {x : Nat} (hx : x < n) : pnt g H x < cnt g H n := cnt_lt (s.lst_lst hx) (s.lst_lt hx)
theorem pnt_first {g : Nat → Nat → Nat} {H : List Nat} {x : Nat} (hx : lst g H x = x) : pnt g H x = cnt g H x := by unfold pnt; rw [hx]
/-- the program's list of points after X rounds -/
def pts (g : Nat → Nat → Nat) (H : List Nat) (X z : Nat) : Int := if lst g H z < X then (pnt g H z : Int) else -1
theorem Sg.pts_skip {n : Nat} {g : Nat → Nat → Nat} {H : List Nat} (s : Sg n g H) {x z : Nat} (hz : z < n) (hx : lst g H x ≠ x) : pts g H (x + 1) z = pts g H x z := by
  unfold pts
  by_cases e : lst g H z = x
  · exact absurd (by rw [← e]; exact s.lst_lst hz) hx
  · by_cases e2 : lst g H z < x
    · rw [if_pos e2, if_pos (by omega)]
    · rw [if_neg e2, if_neg (by omega)]
theorem Sg.pts_first {n : Nat} {g : Nat → Nat → Nat} {H : List Nat} (s : Sg n g H) {x z : Nat} (hxn : x < n) (hz : z < n) (hx : lst g H x = x) :
    pts g H (x + 1) z = if ∃ h ∈ H, g x h = z then (cnt g H x : Int) else pts g H x z := by
  by_cases e : lst g H z = x
  · have hh : ∃ h ∈ H, g x h = z := by rw [← e]; exact s.of_lst hz
    rw [if_pos hh]
    unfold pts pnt
    rw [if_pos (by omega), e]
  · have hh : ¬ ∃ h ∈ H, g x h = z := by
      rintro ⟨h, hh, e2⟩
      exact e (by rw [← e2, s.lst_add hxn hh, hx])
    rw [if_neg hh]
    unfold pts
    by_cases e2 : lst g H z < x
    · rw [if_pos e2, if_pos (by omega)]
    · rw [if_neg e2, if_neg (by omega)]
theorem pts_at {g : Nat → Nat → Nat} {H : List Nat} {x : Nat} (hx : lst g H x ≤ x) : 0 ≤ pts g H x x ↔ lst g H x ≠ x := by
  unfold pts
  split <;> omega
/-- the action's matrices -/
def actE (n : Nat) (g : Nat → Nat → Nat) (H : List Nat) (x r c : Nat) : Int := if pnt g H (g x ((fsts g H n).getD c 0)) = r then 1 else 0
theorem Sg.act_iff {n : Nat} {g : Nat → Nat → Nat} {H : List Nat} (s : Sg n g H) {x r c : Nat} (hc : c < cnt g H n) : (∃ y, y < n ∧ pnt g H (g x y) = r ∧ pnt g H y = c) ↔ pnt g H (g x ((fsts g H n).getD c 0)) = r := by
  have hcl : c < (fsts g H n).length := hc
  have e : (fsts g H n)[c]? = some ((fsts g H n).getD c 0) := by rw [List.getD_eq_getElem?_getD, List.getElem?_eq_getElem hcl]; rfl
  obtain ⟨h1, h2, h3⟩ := fsts_is e
  constructor
  · rintro ⟨y, hy, e1, e2⟩
    have e3 : (fsts g H n)[c]? = some (lst g H y) := by rw [← e2]; exact fsts_at (s.lst_lst hy) (s.lst_lt hy)
    have e4 : (fsts g H n).getD c 0 = lst g H y := by rw [e] at e3; exact Option.some.inj e3
    obtain ⟨h, hh, e5⟩ := s.of_lst hy
    rw [e4, ← e1, ← s.pnt_add (s.gp.lt x (lst g H y)) hh, s.gp.assoc, e5]
  · intro e1
    exact ⟨_, h1, e1, by rw [pnt_first h2, h3]⟩
end Go.Proofs.Ytckcjlophnehmaa
