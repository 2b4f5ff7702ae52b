/- Near-group rings: both sides write a group's table, then the rows and columns of one label more. -/
import Derived.Test.YtnhdnogcglmjdaaRgr
import Derived.Laws.IdiomCopy
namespace Go.Proofs.Ytnhdnogcglmjdaa
open Go.RowKit

/-- the entries that the one label more has, those of the labels below i -/
def crs (n i : Nat) (a b k : Nat) : Prop := (a < i ∧ b = n ∧ k = n) ∨ (a = n ∧ b < i ∧ k = n) ∨ (a = n ∧ b = n ∧ k < i)
instance (n i a b k : Nat) : Decidable (crs n i a b k) := by unfold crs; exact inferInstance
/-- the table where the walk stands -/
def nearS (n : Nat) (T : Nat → Nat → Nat) (i j : Nat) (a b k : Nat) : Int := if (a < i ∧ b < n) ∨ (a = i ∧ b < j) then (if k = T a b then 1 else 0) else if crs n i a b k then 1 else 0
/-- .. at the end, with the last entry -/
def nearE (n : Nat) (T : Nat → Nat → Nat) (q : Int) (a b k : Nat) : Int := if a = n ∧ b = n ∧ k = n then q else nearS n T n 0 a b k
/-- a row put in from its start -/
def updR (f : Nat → Nat → Nat → Int) (i j o : Nat) (ys : List Int) : Nat → Nat → Nat → Int := fun a b k => if a = i ∧ b = j ∧ o ≤ k ∧ k < o + ys.length then ys.getD (k - o) 0 else f a b k
theorem OwnCB.putRow {lo hi g M cap n c1 c2 g1 g2 : Nat} {m1 m2 i j : Nat} (hi' : i < n) (hj : j < n) (hne : g2 ≠ g) (hne1 : g2 ≠ g1) : ∀ (ys : List Int) (o : Nat) (f : Nat → Nat → Nat → Int) (w : World), o + ys.length ≤ n →
    OwnCB w lo hi (.slice (some ⟨g, 0, none⟩) M cap) (cub n f) → w.cell? ⟨g, i, none⟩ = some (.slice (some ⟨g1, 0, none⟩) m1 c1) → w.cell? ⟨g1, j, none⟩ = some (.slice (some ⟨g2, 0, none⟩) m2 c2) →
    OwnCB (w.setCells g2 o (ys.map vi)) lo hi (.slice (some ⟨g, 0, none⟩) M cap) (cub n (updR f i j o ys))
  | [], o, f, w, _, h, _, _ => by
    have e : cub n (updR f i j o []) = cub n f := cub_congr fun a b k _ _ _ => by unfold updR; rw [if_neg (by simp <;> omega)]
    rw [e]
    exact h
  | y :: ys, o, f, w, hl, h, h1, h2 => by
    simp at hl
    have h3 := h.setAt hi' hj (show o < n by omega) h1 h2 y
    have h4 := OwnCB.putRow hi' hj hne hne1 ys (o + 1) _ _ (by omega) h3 ((World.cell?_setCell_other _ _ _ _ (fun e => hne (congrArg Addr.block e))).trans h1) ((World.cell?_setCell_other _ _ _ _ (fun e => hne1 (congrArg Addr.block e))).trans h2)
    have e : cub n (updR f i j o (y :: ys)) = cub n (updR (upd3 f i j o y) i j (o + 1) ys) := cub_congr fun a b k _ _ _ => by
      unfold updR upd3
      by_cases e1 : a = i ∧ b = j
      · obtain ⟨rfl, rfl⟩ := e1
        by_cases e2 : k = o
        · subst e2
          rw [if_pos ⟨rfl, rfl, Nat.le_refl _, by simp⟩, if_neg (by omega), if_pos ⟨rfl, rfl, rfl⟩]
          simp
        · by_cases e3 : o ≤ k ∧ k < o + (ys.length + 1)
          · rw [if_pos ⟨rfl, rfl, e3.1, by simp; omega⟩, if_pos ⟨rfl, rfl, by omega, by omega⟩]
            obtain ⟨d, hd⟩ : ∃ d, k - o = d + 1 := ⟨k - o - 1, by omega⟩
            rw [hd, show k - (o + 1) = d by omega]
            simp
          · rw [if_neg (by simp; omega), if_neg (by omega), if_neg (by omega)]
      · rw [if_neg (fun h => e1 ⟨h.1, h.2.1⟩), if_neg (fun h => e1 ⟨h.1, h.2.1⟩), if_neg (fun h => e1 ⟨h.1, h.2.1⟩)]
    rw [e]
    exact h4
theorem nr_row (n : Nat) (T : Nat → Nat → Nat) (i j : Nat) (hi : i < n) (hj : j < n) (hT : T i j < n) : cub (n + 1) (updR (nearS n T i j) i j 0 (vec n (tabE n T i j))) = cub (n + 1) (nearS n T i (j + 1)) := by
  refine cub_congr fun a b k _ _ hk => ?_
  unfold updR nearS
  rw [vec_length]
  by_cases e : a = i ∧ b = j
  · obtain ⟨rfl, rfl⟩ := e
    have h1 : (a < a ∧ b < n) ∨ (a = a ∧ b < b + 1) := by omega
    rw [if_pos h1]
    by_cases hkn : k < n
    · rw [if_pos ⟨rfl, rfl, Nat.zero_le _, by omega⟩]
      have e2 : (vec n (tabE n T a b)).getD (k - 0) 0 = tabE n T a b k := by simp [List.getD_eq_getElem?_getD, vec_at _ hkn]
      rw [e2]
      unfold tabE
      by_cases e3 : k = T a b
      · rw [if_pos e3, if_pos ⟨hi, hj, e3⟩]
      · rw [if_neg e3, if_neg (fun h => e3 h.2.2)]
    · have h2 : ¬ (a = a ∧ b = b ∧ 0 ≤ k ∧ k < 0 + n) := by omega
      have h3 : ¬ ((a < a ∧ b < n) ∨ (a = a ∧ b < b)) := by omega
      rw [if_neg h2, if_neg h3, if_neg (by unfold crs; omega), if_neg (by omega)]
  · have h2 : ¬ (a = i ∧ b = j ∧ 0 ≤ k ∧ k < 0 + n) := fun h => e ⟨h.1, h.2.1⟩
    rw [if_neg h2]
    by_cases h3 : (a < i ∧ b < n) ∨ (a = i ∧ b < j)
    · have h4 : (a < i ∧ b < n) ∨ (a = i ∧ b < j + 1) := by omega
      rw [if_pos h3, if_pos h4]
    · have h4 : ¬ ((a < i ∧ b < n) ∨ (a = i ∧ b < j + 1)) := by omega
      rw [if_neg h3, if_neg h4]
theorem nr_next (n : Nat) (T : Nat → Nat → Nat) (i : Nat) (hi : i < n) : cub (n + 1) (upd3 (upd3 (upd3 (nearS n T i n) i n n 1) n i n 1) n n i 1) = cub (n + 1) (nearS n T (i + 1) 0) := by
  refine cub_congr fun a b k _ _ _ => ?_
  unfold upd3 nearS
  by_cases h1 : (a < i ∧ b < n) ∨ (a = i ∧ b < n)
  · have h2 : (a < i + 1 ∧ b < n) ∨ (a = i + 1 ∧ b < 0) := by omega
    rw [if_neg (by omega), if_neg (by omega), if_neg (by omega), if_pos h1, if_pos h2]
  · have h2 : ¬ ((a < i + 1 ∧ b < n) ∨ (a = i + 1 ∧ b < 0)) := by omega
    rw [if_neg h1, if_neg h2]
    by_cases h3 : crs n (i + 1) a b k
    · rw [if_pos h3]
      unfold crs at *
      (repeat' split) <;> first | rfl | omega
    · rw [if_neg h3]
      unfold crs at *
      (repeat' split) <;> first | rfl | omega
theorem nr_last (n : Nat) (T : Nat → Nat → Nat) (q : Int) : cub (n + 1) (upd3 (nearS n T n 0) n n n q) = cub (n + 1) (nearE n T q) := rfl
theorem nr_start (n : Nat) (T : Nat → Nat → Nat) : cub (n + 1) (nearS n T 0 0) = cub (n + 1) fun _ _ _ => 0 :=
  cub_congr fun a b k _ _ _ => by unfold nearS; rw [if_neg (by omega), if_neg (by unfold crs; omega)]
/-! the other side begins with the whole table -/
def nearT (n : Nat) (T : Nat → Nat → Nat) (i : Nat) (a b k : Nat) : Int := if a < n ∧ b < n then (if k = T a b then 1 else 0) else if crs n i a b k then 1 else 0
theorem nt_start (n : Nat) (T : Nat → Nat → Nat) : cub (n + 1) (tabE n T) = cub (n + 1) (nearT n T 0) := by
  refine cub_congr fun a b k _ _ _ => ?_
  unfold tabE nearT
  by_cases h : a < n ∧ b < n
  · rw [if_pos h]
    by_cases e : k = T a b
    · rw [if_pos e, if_pos ⟨h.1, h.2, e⟩]
    · rw [if_neg e, if_neg (fun h => e h.2.2)]
  · rw [if_neg h, if_neg (fun h' => h ⟨h'.1, h'.2.1⟩), if_neg (by unfold crs; omega)]
theorem nt_next (n : Nat) (T : Nat → Nat → Nat) (i : Nat) (hi : i < n) : cub (n + 1) (upd3 (upd3 (upd3 (nearT n T i) i n n 1) n i n 1) n n i 1) = cub (n + 1) (nearT n T (i + 1)) := by
  refine cub_congr fun a b k _ _ _ => ?_
  unfold upd3 nearT
  by_cases h1 : a < n ∧ b < n
  · rw [if_neg (by omega), if_neg (by omega), if_neg (by omega), if_pos h1, if_pos h1]
  · rw [if_neg h1, if_neg h1]
    by_cases h3 : crs n (i + 1) a b k
    · rw [if_pos h3]
      unfold crs at *
      (repeat' split) <;> first | rfl | omega
    · rw [if_neg h3]
      unfold crs at *
      (repeat' split) <;> first | rfl | omega
theorem nt_last (n : Nat) (T : Nat → Nat → Nat) (q : Int) : cub (n + 1) (upd3 (nearT n T n) n n n q) = cub (n + 1) (nearE n T q) := by
  refine cub_congr fun a b k _ _ _ => ?_
  unfold upd3 nearE nearT nearS
  by_cases h : a = n ∧ b = n ∧ k = n
  · rw [if_pos h, if_pos h]
  · rw [if_neg h, if_neg h]
    by_cases h1 : a < n ∧ b < n
    · have h2 : (a < n ∧ b < n) ∨ (a = n ∧ b < 0) := by omega
      rw [if_pos h1, if_pos h2]
    · have h2 : ¬ ((a < n ∧ b < n) ∨ (a = n ∧ b < 0)) := by omega
      rw [if_neg h1, if_neg h2]
set_option maxRecDepth 100000 in
set_option maxHeartbeats 2000000 in
theorem c_l06Near (v : Value) (xs : List Int) (q : Int) (w : World) (hv : Ints w v xs) (ho : ordN xs ≠ 0) (h16 : ordN xs ≤ 15) :
    Calls Try.prog 70 #[v, .int .i64 q] w (RetC (cub (ordN xs + 1) (nearE (ordN xs) (grpT xs) q)) w) := by
  have HV := Lib.hid hv
  have HO := Lib.hid ho
  have H16 := Lib.hid (show ordN xs ≤ 16 by omega)
  obtain ⟨n, hn⟩ : ∃ n, n = ordN xs := ⟨_, rfl⟩
  have HN := Lib.hid hn
  rw [← hn] at h16 ⊢
  have hpos : 0 < n := by omega
  clear hn ho hv
  go_enter Try.func70, Try.ntmps70
  go_wp2_with fail
  refine (c_l06Group v xs 1 _ HV.out HO.out H16.out (by omega)).mono ?_
  rw [← HN.out]
  rintro e w1 ⟨v1, rfl, ho1, hb1⟩
  obtain ⟨g, cap, rfl, hg1, hg2⟩ := ho1.shape' (by rw [cub_length]; omega)
  rw [cub_length] at ho1 ⊢
  have HIN : Hid (InOne w w1.heap.size (.slice (some ⟨g, 0, none⟩) (n + 1) cap) (cub (n + 1) (nearT n (grpT xs) 0)) w1) := Lib.hid ⟨Nat.le_refl _, by rw [← nt_start]; exact ho1, hb1⟩
  clear ho1 hb1
  have hE : (((n + 1 : Nat) : Int) - 1) = (n : Int) := by omega
  go_wp2_with fail
  go_loopw [7] (fun i wr => ∃ k : Nat, k ≤ n ∧ i = .int .i64 k ∧ Hid (InOne w w1.heap.size (.slice (some ⟨g, 0, none⟩) (n + 1) cap) (cub (n + 1) (nearT n (grpT xs) k)) wr)) (fun i _ => n - (intOf i).toNat)
  case atStart => exact ⟨0, Nat.zero_le _, rfl, HIN⟩
  case round =>
    obtain ⟨i, hi, rfl, hin⟩ := hrel
    by_cases hlt : i < n
    · have hi1 : i < n + 1 := by omega
      have hn1 : n < n + 1 := by omega
      obtain ⟨g1, c1, g2, c2, e1, e2, e3, e4, e5, e6, e7, e8, e9⟩ := hin.out.own.at hi1 hn1 hn1
      have hinA : Hid (InOne w w1.heap.size (.slice (some ⟨g, 0, none⟩) (n + 1) cap) (cub (n + 1) (upd3 (nearT n (grpT xs) i) i n n 1)) (wr.setCell ⟨g2, n, none⟩ (vi 1))) := Lib.hid (hin.out.set e5 (e9 1))
      clear e9
      obtain ⟨g3, c3, g4, c4, a1, a2, a3, a4, a5, a6, a7, a8, a9⟩ := hinA.out.own.at hn1 hi1 hn1
      have hinB : Hid (InOne w w1.heap.size (.slice (some ⟨g, 0, none⟩) (n + 1) cap) (cub (n + 1) (upd3 (upd3 (nearT n (grpT xs) i) i n n 1) n i n 1)) ((wr.setCell ⟨g2, n, none⟩ (vi 1)).setCell ⟨g4, n, none⟩ (vi 1))) := Lib.hid (hinA.out.set a5 (a9 1))
      clear a9
      obtain ⟨g5, c5, g6, c6, b1, b2, b3, b4, b5, b6, b7, b8, b9⟩ := hinB.out.own.at hn1 hn1 hi1
      have hinC : Hid (InOne w w1.heap.size (.slice (some ⟨g, 0, none⟩) (n + 1) cap) (cub (n + 1) (nearT n (grpT xs) (i + 1))) (((wr.setCell ⟨g2, n, none⟩ (vi 1)).setCell ⟨g4, n, none⟩ (vi 1)).setCell ⟨g6, i, none⟩ (vi 1))) := Lib.hid (by rw [← nt_next n (grpT xs) i hlt]; exact hinB.out.set b5 (b9 1))
      clear b9 hin hinA hinB
      go_wp2_with fail
      go_roundw
      case rel => exact ⟨i + 1, by omega, by go_num, hinC⟩
      case measure => simp [intOf]; omega
    · obtain rfl : n = i := by omega
      have hn1 : n < n + 1 := by omega
      obtain ⟨g1, c1, g2, c2, e1, e2, e3, e4, e5, e6, e7, e8, e9⟩ := hin.out.own.at hn1 hn1 hn1
      have hinA : Hid (InOne w w1.heap.size (.slice (some ⟨g, 0, none⟩) (n + 1) cap) (cub (n + 1) (nearE n (grpT xs) q)) (wr.setCell ⟨g2, n, none⟩ (vi q))) := Lib.hid (by rw [← nt_last]; exact hin.out.set e5 (e9 q))
      clear e9 hin
      go_wp2_with fail
      go_ret
      exact ⟨_, rfl, hinA.out.own.mono (Nat.le_refl _) hinA.out.size, hinA.out.below⟩

/-- where the walk of nearGroup stands: the result's box, the group's and the ring's, and both cubes -/
structure InTwo (w : World) (b1 b2 : Nat) (gv rv : Value) (gc rc : List (List (List Int))) (wr : World) : Prop where
  c0 : wr.cell? ⟨w.heap.size, 0, none⟩ = some (.slice none 0 0)
  f0 : wr.frozen? ⟨w.heap.size, 0, none⟩ = false
  cg : wr.cell? ⟨b1, 0, none⟩ = some gv
  cr : wr.cell? ⟨b2, 0, none⟩ = some rv
  size : b2 < wr.heap.size
  ownG : OwnCB wr (w.heap.size + 1) b1 gv gc
  ownR : OwnCB wr (b1 + 1) b2 rv rc
  below : Below w.heap.size w wr
theorem InTwo.set {w wr : World} {b1 b2 g2 k : Nat} {gv rv : Value} {gc rc rc' : List (List (List Int))} {x : Int} (h : InTwo w b1 b2 gv rv gc rc wr) (h0 : w.heap.size < b1) (h1 : b1 + 1 ≤ g2) (h2 : g2 < b2) (ho : OwnCB (wr.setCell ⟨g2, k, none⟩ (vi x)) (b1 + 1) b2 rv rc') :
    InTwo w b1 b2 gv rv gc rc' (wr.setCell ⟨g2, k, none⟩ (vi x)) :=
  ⟨(World.cell?_setCell_other _ _ _ _ (fun e => absurd (congrArg Addr.block e) (by simp; omega))).trans h.c0, by simp [h.f0], (World.cell?_setCell_other _ _ _ _ (fun e => absurd (congrArg Addr.block e) (by simp; omega))).trans h.cg,
    (World.cell?_setCell_other _ _ _ _ (fun e => absurd (congrArg Addr.block e) (by simp; omega))).trans h.cr, by simpa using h.size, h.ownG.same fun x h3 h4 => Below.heap_setCell wr ⟨g2, k, none⟩ _ _ (fun e => by have e' : x = g2 := e; omega), ho, below_set h.below (by omega)⟩
theorem InTwo.drew {w wr : World} {b1 b2 : Nat} {gv rv : Value} {gc rc : List (List (List Int))} (h : InTwo w b1 b2 gv rv gc rc wr) : InTwo w b1 b2 gv rv gc rc wr.drew :=
  ⟨h.c0, h.f0, h.cg, h.cr, h.size, h.ownG, h.ownR, h.below.drew⟩
theorem InTwo.frame {w wr wr' : World} {b1 b2 g2 : Nat} {gv rv : Value} {gc rc rc' : List (List (List Int))} (h : InTwo w b1 b2 gv rv gc rc wr) (h0 : w.heap.size < b1) (h1 : b1 + 1 ≤ g2) (h2 : g2 < b2) (ho : OwnCB wr' (b1 + 1) b2 rv rc')
    (hh : ∀ x, x ≠ g2 → wr'.heap[x]? = wr.heap[x]?) (hz : wr'.heap.size = wr.heap.size) (hb : Below w.heap.size w wr') : InTwo w b1 b2 gv rv gc rc' wr' :=
  ⟨cell_sameD (hh _ (by omega)) h.c0, frozen_sameD (hh _ (by omega)) h.c0 h.f0, cell_sameD (hh _ (by omega)) h.cg, cell_sameD (hh _ (by omega)) h.cr, by rw [hz]; exact h.size, h.ownG.same fun x h3 h4 => hh x (by omega), ho, hb⟩
theorem setCells_heap (b : Nat) : ∀ (vs : List Value) (o : Nat) (w : World) (x : Nat), x ≠ b → (w.setCells b o vs).heap[x]? = w.heap[x]?
  | [], _, _, _, _ => rfl
  | v :: r, o, w, x, h => by
    rw [World.setCells, setCells_heap b r (o + 1) _ x h]
    exact Below.heap_setCell _ _ _ _ (fun e => h (by simpa using e))
theorem setCells_size (b : Nat) : ∀ (vs : List Value) (o : Nat) (w : World), (w.setCells b o vs).heap.size = w.heap.size
  | [], _, _ => rfl
  | v :: r, o, w => by rw [World.setCells, setCells_size b r (o + 1)]; simp
theorem below_setCells {w0 : World} {B b : Nat} (hb : B ≤ b) : ∀ (vs : List Value) (o : Nat) (w : World), Below B w0 w → Below B w0 (w.setCells b o vs)
  | [], _, _, h => h
  | v :: r, o, w, h => by rw [World.setCells]; exact below_setCells hb r (o + 1) _ (below_set h hb)
/-- rows of a cube that stand at different places lie in different blocks -/
theorem OwnCB.rowsApart {w : World} {lo hi g M cap n : Nat} {f : Nat → Nat → Nat → Int} (h : OwnCB w lo hi (.slice (some ⟨g, 0, none⟩) M cap) (cub n f)) {i i' j j' g1 g2 g3 g4 m1 m2 m3 m4 c1 c2 c3 c4 : Nat} (hi1 : i < n) (hi2 : i' < n) (hj1 : j < n) (hj2 : j' < n)
    (e1 : w.cell? ⟨g, i, none⟩ = some (.slice (some ⟨g1, 0, none⟩) m1 c1)) (e2 : w.cell? ⟨g1, j, none⟩ = some (.slice (some ⟨g2, 0, none⟩) m2 c2))
    (e3 : w.cell? ⟨g, i', none⟩ = some (.slice (some ⟨g3, 0, none⟩) m3 c3)) (e4 : w.cell? ⟨g3, j', none⟩ = some (.slice (some ⟨g4, 0, none⟩) m4 c4)) (hne : i ≠ i' ∨ j ≠ j') : g2 ≠ g4 := by
  obtain ⟨us, bd, ho, hlen, hr, ha, hg⟩ := h
  rw [cub_length] at hlen
  obtain ⟨u, hu⟩ : ∃ u, us[i]? = some u := ⟨us[i]'(by omega), by simp⟩
  obtain ⟨u', hu'⟩ : ∃ u, us[i']? = some u := ⟨us[i']'(by omega), by simp⟩
  have k1 := Own.cell ho hu
  have k2 := Own.cell ho hu'
  rw [e1] at k1; cases k1
  rw [e3] at k2; cases k2
  by_cases ei : i = i'
  · subst ei
    rw [hu] at hu'
    cases hu'
    obtain ⟨⟨vs, ho1, hl1, hr1, ha1, _, _⟩, _, _⟩ := hr i _ _ hu (vec_at (fun i => tab n n (f i)) hi1)
    rw [tab_length] at hl1
    obtain ⟨x, hx⟩ : ∃ u, vs[j]? = some u := ⟨vs[j]'(by omega), by simp⟩
    obtain ⟨y, hy⟩ : ∃ u, vs[j']? = some u := ⟨vs[j']'(by omega), by simp⟩
    have k3 := Own.cell ho1 hx
    have k4 := Own.cell ho1 hy
    rw [e2] at k3; cases k3
    rw [e4] at k4; cases k4
    intro e
    exact ha1 j j' _ _ hx hy (by omega) g2 rfl (by rw [e]; rfl)
  · obtain ⟨⟨vs, ho1, hl1, hr1, _, _, hb1⟩, _, _⟩ := hr i _ _ hu (vec_at (fun i => tab n n (f i)) hi1)
    obtain ⟨⟨vs2, ho2, hl2, hr2, _, _, hb2⟩, _, _⟩ := hr i' _ _ hu' (vec_at (fun i => tab n n (f i)) hi2)
    rw [tab_length] at hl1 hl2
    obtain ⟨x, hx⟩ : ∃ u, vs[j]? = some u := ⟨vs[j]'(by omega), by simp⟩
    obtain ⟨y, hy⟩ : ∃ u, vs2[j']? = some u := ⟨vs2[j']'(by omega), by simp⟩
    have k3 := Own.cell ho1 hx
    have k4 := Own.cell ho2 hy
    rw [e2] at k3; cases k3
    rw [e4] at k4; cases k4
    have b1 := hb1 j _ hx g2 rfl
    have b2 := hb2 j' _ hy g4 rfl
    have l1 := ((hr1 j _ _ hx (tab_row (f i) hj1)).lt (g := g2) rfl).1
    have l2 := ((hr2 j' _ _ hy (tab_row (f i') hj2)).lt (g := g4) rfl).1
    intro e
    have hil : i < us.length := by omega
    have hil' : i' < us.length := by omega
    rcases Nat.lt_or_gt_of_ne ei with h | h
    · have := ha i i' h hil'; omega
    · have := ha i' i h hil; omega
theorem ne_blocks {w : World} {x y k : Nat} {a : Int} {p : Option Addr} {m c : Nat} (h1 : w.cell? ⟨x, k, none⟩ = some (vi a)) (h2 : w.cell? ⟨y, k, none⟩ = some (.slice p m c)) : x ≠ y := fun e => by
  subst e; rw [h1] at h2; cases h2
set_option maxRecDepth 100000 in
set_option maxHeartbeats 4000000 in
theorem c_nearGroup (v : Value) (xs : List Int) (q : Int) (w : World) (hv : Ints w v xs) (ho : ordN xs ≠ 0) (h16 : ordN xs ≤ 15) :
    Calls Try.prog 71 #[v, .int .i64 q] w (RetR1 (cub (ordN xs + 1) (nearE (ordN xs) (grpT xs) q)) w) := by
  have HV := Lib.hid (hv.keep (below_alloc w (.cells #[.slice none 0 0] 31)))
  have HO := Lib.hid ho
  have H16 := Lib.hid (show ordN xs ≤ 16 by omega)
  have HT := Lib.hid (fun i j => grpT_lt ho (show ordN xs ≤ 16 by omega) i j)
  obtain ⟨n, hn⟩ : ∃ n, n = ordN xs := ⟨_, rfl⟩
  have HN := Lib.hid hn
  rw [← hn] at h16 HT ⊢
  have hpos : 0 < n := by omega
  clear hn ho hv
  go_enter Try.func71, Try.ntmps71
  go_wp2_with fail
  refine (c_groupRing v xs _ HV.out HO.out H16.out).mono ?_
  rw [← HN.out]
  rintro e w1 ⟨v1, rfl, ho1, hb1⟩
  obtain ⟨g, cap, rfl, hg1, hg2⟩ := ho1.shape' (by rw [cub_length]; omega)
  rw [cub_length] at ho1 ⊢
  have hsz1 : w.heap.size + 1 ≤ w1.heap.size := by have := hb1.size; simpa using this
  have hlt1 : w.heap.size < w1.heap.size := by omega
  have HC0 : Hid (w1.cell? ⟨w.heap.size, 0, none⟩ = some (.slice none 0 0) ∧ w1.frozen? ⟨w.heap.size, 0, none⟩ = false) := Lib.hid ⟨bcell hb1 (by simp), bfrozen hb1 (v := .slice none 0 0) (by simp) (by simp)⟩
  have HG1 := Lib.hid (ho1.mono (show w.heap.size + 1 ≤ _ by simp) (Nat.le_refl _))
  have HB1 := Lib.hid (below_after hb1)
  clear ho1 hb1
  have HE : Hid (((n : Int) + 1) = ((n + 1 : Nat) : Int)) := Lib.hid (by omega)
  go_wp2_with fail
  rw [HE.out]
  refine (c_emptyCube (n + 1) _ (by omega)).mono ?_
  rintro e w2 ⟨v2, rfl, ho2, hb2⟩
  obtain ⟨r, cap2, rfl, hr1, hr2⟩ := ho2.shape' (by rw [cub_length]; omega)
  rw [cub_length] at ho2 ⊢
  simp only [World.size_alloc] at ho2
  have hsz2 : w1.heap.size + 1 ≤ w2.heap.size := by have := hb2.size; simpa using this
  have HIN : Hid (InTwo w w1.heap.size w2.heap.size (.slice (some ⟨g, 0, none⟩) n cap) (.slice (some ⟨r, 0, none⟩) (n + 1) cap2) (cub n (tabE n (grpT xs))) (cub (n + 1) (nearS n (grpT xs) 0 0)) (w2.alloc (.cells #[.slice (some ⟨r, 0, none⟩) (n + 1) cap2] 31))) := Lib.hid
    ⟨bcell (below_alloc _ _) (bcell hb2 (bcell (below_alloc _ _) HC0.out.1)), bfrozen (below_alloc _ _) (bcell hb2 (bcell (below_alloc _ _) HC0.out.1)) (bfrozen hb2 (bcell (below_alloc _ _) HC0.out.1) (bfrozen (below_alloc _ _) HC0.out.1 HC0.out.2)),
      bcell (below_alloc _ _) (bcell hb2 (by simp)), by simp, by simp, ((HG1.out.alloc (Nat.le_refl _) _).keep hb2 (by simp)).alloc (by omega) _, by rw [nr_start]; exact ho2.alloc (Nat.le_refl _) _, ((HB1.out.alloc HB1.out.size _).trans (hb2.mono (by simp; omega))).alloc (by omega) _⟩
  clear ho2 hb2 HC0 HG1 HB1 HE
  go_wp2_with fail
  go_loopw [19] (fun i wr => ∃ k : Nat, k ≤ n ∧ i = .int .i64 k ∧ Hid (InTwo w w1.heap.size w2.heap.size (.slice (some ⟨g, 0, none⟩) n cap) (.slice (some ⟨r, 0, none⟩) (n + 1) cap2) (cub n (tabE n (grpT xs))) (cub (n + 1) (nearS n (grpT xs) k 0)) wr)) (fun i _ => n - (intOf i).toNat)
  case atStart => exact ⟨0, Nat.zero_le _, rfl, HIN⟩
  case round =>
    obtain ⟨i, hi, rfl, hin⟩ := hrel
    by_cases hlt : i < n
    · go_wp2_with fail
      go_loopw [23] (fun j wr => ∃ k : Nat, k ≤ n ∧ j = .int .i64 k ∧ Hid (InTwo w w1.heap.size w2.heap.size (.slice (some ⟨g, 0, none⟩) n cap) (.slice (some ⟨r, 0, none⟩) (n + 1) cap2) (cub n (tabE n (grpT xs))) (cub (n + 1) (nearS n (grpT xs) i k)) wr)) (fun j _ => n - (intOf j).toNat)
      case atStart => exact ⟨0, Nat.zero_le _, rfl, hin⟩
      case round =>
        clear hin
        obtain ⟨j, hj, rfl, hin⟩ := hrel
        by_cases hlt2 : j < n
        · have hc1 := hin.out.cg
          have hc2 := hin.out.cr
          have hsz := hin.out.size
          have hi1 : i < n + 1 := by omega
          have hj1 : j < n + 1 := by omega
          obtain ⟨g1, c1, g2, c2, e1, e2, _, _, _, _, _, _, _⟩ := hin.out.ownG.at hlt hlt2 hpos
          have HCOL : Hid (∀ k : Nat, k < n → wr.drew.cell? ⟨g2, k, none⟩ = some (vi (tabE n (grpT xs) i j k))) := Lib.hid (fun k hk => by
            obtain ⟨g1', c1', g2', c2', d1, d2, d3, _⟩ := hin.out.ownG.at hlt hlt2 hk
            rw [e1] at d1; cases d1
            rw [e2] at d2; cases d2
            exact d3)
          obtain ⟨r1, k1, r2, k2, a1, a2, a3, a4, a5, a6, a7, a8, _⟩ := hin.out.ownR.at hi1 hj1 (Nat.succ_pos n)
          have HROW : Hid (∀ k : Nat, k < n + 1 → (wr.drew.cell? ⟨r2, k, none⟩).isSome = true ∧ wr.drew.frozen? ⟨r2, k, none⟩ = false) := Lib.hid (fun k hk => by
            obtain ⟨g1', c1', g2', c2', d1, d2, d3, d4, _⟩ := hin.out.ownR.at hi1 hj1 hk
            rw [a1] at d1; cases d1
            rw [a2] at d2; cases d2
            exact ⟨by show (wr.cell? _).isSome = true; rw [d3]; rfl, d4⟩)
          have hcp : ∀ ty, (Builtin.copy_ #[37, 37] ty #[.slice (some ⟨r2, 0, none⟩) (n + 1) k2, .slice (some ⟨g2, 0, none⟩) n c2]).run Try.prog wr.drew = .ok (goInt ((vec n (tabE n (grpT xs) i j)).map vi).length) (wr.drew.setCells r2 0 ((vec n (tabE n (grpT xs) i j)).map vi)) := fun ty =>
            run_copy_cells wr.drew 37 37 ty 2 r2 0 (n + 1) k2 ⟨g2, 0, none⟩ n c2 ((vec n (tabE n (grpT xs) i j)).map vi) Try.underlying37 (by kernel_rfl) (by rw [List.length_map, vec_length]; show n = min n (n + 1); omega)
              (fun k u hu => by
                rw [List.getElem?_map] at hu
                cases hx : (vec n (tabE n (grpT xs) i j))[k]? with
                | none => rw [hx] at hu; cases hu
                | some y =>
                  rw [hx] at hu
                  cases hu
                  have hk := (List.getElem?_eq_some_iff.1 hx).1
                  rw [vec_length] at hk
                  rw [vec_at _ hk] at hx
                  cases hx
                  have h3 := HCOL.out k hk
                  unfold Addr.add
                  split
                  · rename_i e; subst e; exact h3
                  · simpa using h3)
              (fun k hk => by rw [List.length_map, vec_length] at hk; rw [Nat.zero_add]; exact (HROW.out k (by omega)).1) (fun k hk => by rw [List.length_map, vec_length] at hk; rw [Nat.zero_add]; exact (HROW.out k (by omega)).2) (fun u hu => by obtain ⟨y, _, rfl⟩ := List.mem_map.1 hu; rfl)
          have hnew : Hid (InTwo w w1.heap.size w2.heap.size (.slice (some ⟨g, 0, none⟩) n cap) (.slice (some ⟨r, 0, none⟩) (n + 1) cap2) (cub n (tabE n (grpT xs))) (cub (n + 1) (nearS n (grpT xs) i (j + 1))) (wr.drew.setCells r2 0 ((vec n (tabE n (grpT xs) i j)).map vi))) := Lib.hid (by
            have h1 := hin.out.drew
            refine h1.frame (g2 := r2) hlt1 a5 a6 ?_ (fun x hx => setCells_heap _ _ _ _ x hx) (setCells_size _ _ _ _) (below_setCells (by omega) _ _ _ h1.below)
            have h2 := OwnCB.putRow (n := n + 1) (g1 := r1) (g2 := r2) hi1 hj1 a7 a8 (vec n (tabE n (grpT xs) i j)) 0 _ _ (by rw [vec_length]; omega) h1.ownR a1 a2
            rw [nr_row n (grpT xs) i j hlt hlt2 (HT.out i j)] at h2
            exact h2)
          have HNL : Hid (((vec n (tabE n (grpT xs) i j)).map vi).length = n) := Lib.hid (by rw [List.length_map, vec_length])
          clear hin a3 a4
          go_wp2_with fail
          go_region
          go_wp2_with fail
          exact ⟨⟨j + 1, by omega, by go_num, hnew⟩, by simp [intOf]; omega⟩
        · obtain rfl : n = j := by omega
          have hc1 := hin.out.cg
          have hc2 := hin.out.cr
          have hsz := hin.out.size
          have hi1 : i < n + 1 := by omega
          have hn1 : n < n + 1 := by omega
          obtain ⟨p1, k1, p2, k2, a1, a2, a3, a4, a5, a6, a7, a8, _⟩ := hin.out.ownR.at hi1 hn1 hn1
          obtain ⟨q1, k3, q2, k4, b1, b2, b3, b4, b5, b6, b7, b8, _⟩ := hin.out.ownR.at hn1 hi1 hn1
          obtain ⟨q1', k5, s2, k6, d1, d2, d3, d4, d5, d6, d7, d8, _⟩ := hin.out.ownR.at hn1 hn1 hi1
          rw [b1] at d1
          cases d1
          have a3i : ∃ y, wr.cell? ⟨p2, i, none⟩ = some (vi y) := by
            obtain ⟨x1, y1, x2, y2, z1, z2, z3, _⟩ := hin.out.ownR.at hi1 hn1 hi1
            rw [a1] at z1; cases z1
            rw [a2] at z2; cases z2
            exact ⟨_, z3⟩
          have d3n : ∃ y, wr.cell? ⟨s2, n, none⟩ = some (vi y) := by
            obtain ⟨x1, y1, x2, y2, z1, z2, z3, _⟩ := hin.out.ownR.at hn1 hn1 hn1
            rw [b1] at z1; cases z1
            rw [d2] at z2; cases z2
            exact ⟨_, z3⟩
          have n1 : p2 ≠ q1 := ne_blocks a3i.choose_spec b2
          have n2 : q2 ≠ p1 := ne_blocks b3 a2
          have n3 : s2 ≠ p1 := ne_blocks d3n.choose_spec a2
          clear a3i d3n
          have n4 : p2 ≠ q2 := hin.out.ownR.rowsApart hi1 hn1 hn1 hi1 a1 a2 b1 b2 (by omega)
          have n5 : p2 ≠ s2 := hin.out.ownR.rowsApart hi1 hn1 hn1 hn1 a1 a2 b1 d2 (by omega)
          have n6 : q2 ≠ s2 := hin.out.ownR.rowsApart hn1 hn1 hi1 hn1 b1 b2 b1 d2 (by omega)
          have hinA : Hid (InTwo w w1.heap.size w2.heap.size (.slice (some ⟨g, 0, none⟩) n cap) (.slice (some ⟨r, 0, none⟩) (n + 1) cap2) (cub n (tabE n (grpT xs))) (cub (n + 1) (upd3 (nearS n (grpT xs) i n) i n n 1)) (wr.setCell ⟨p2, n, none⟩ (vi 1))) := Lib.hid (hin.out.set hlt1 a5 a6 (hin.out.ownR.setAt hi1 hn1 hn1 a1 a2 1))
          have b1' : (wr.setCell ⟨p2, n, none⟩ (vi 1)).cell? ⟨r, n, none⟩ = some (.slice (some ⟨q1, 0, none⟩) (n + 1) k3) := (World.cell?_setCell_other _ _ _ _ (fun e => a7 (congrArg Addr.block e))).trans b1
          have b2' : (wr.setCell ⟨p2, n, none⟩ (vi 1)).cell? ⟨q1, i, none⟩ = some (.slice (some ⟨q2, 0, none⟩) (n + 1) k4) := (World.cell?_setCell_other _ _ _ _ (fun e => n1 (congrArg Addr.block e))).trans b2
          have d2' : (wr.setCell ⟨p2, n, none⟩ (vi 1)).cell? ⟨q1, n, none⟩ = some (.slice (some ⟨s2, 0, none⟩) (n + 1) k6) := (World.cell?_setCell_other _ _ _ _ (fun e => n1 (congrArg Addr.block e))).trans d2
          have hinB : Hid (InTwo w w1.heap.size w2.heap.size (.slice (some ⟨g, 0, none⟩) n cap) (.slice (some ⟨r, 0, none⟩) (n + 1) cap2) (cub n (tabE n (grpT xs))) (cub (n + 1) (upd3 (upd3 (nearS n (grpT xs) i n) i n n 1) n i n 1)) ((wr.setCell ⟨p2, n, none⟩ (vi 1)).setCell ⟨q2, n, none⟩ (vi 1))) := Lib.hid (hinA.out.set hlt1 b5 b6 (hinA.out.ownR.setAt hn1 hi1 hn1 b1' b2' 1))
          have b1'' : ((wr.setCell ⟨p2, n, none⟩ (vi 1)).setCell ⟨q2, n, none⟩ (vi 1)).cell? ⟨r, n, none⟩ = some (.slice (some ⟨q1, 0, none⟩) (n + 1) k3) := (World.cell?_setCell_other _ _ _ _ (fun e => b7 (congrArg Addr.block e))).trans b1'
          have d2'' : ((wr.setCell ⟨p2, n, none⟩ (vi 1)).setCell ⟨q2, n, none⟩ (vi 1)).cell? ⟨q1, n, none⟩ = some (.slice (some ⟨s2, 0, none⟩) (n + 1) k6) := (World.cell?_setCell_other _ _ _ _ (fun e => b8 (congrArg Addr.block e))).trans d2'
          have hinC : Hid (InTwo w w1.heap.size w2.heap.size (.slice (some ⟨g, 0, none⟩) n cap) (.slice (some ⟨r, 0, none⟩) (n + 1) cap2) (cub n (tabE n (grpT xs))) (cub (n + 1) (nearS n (grpT xs) (i + 1) 0)) (((wr.setCell ⟨p2, n, none⟩ (vi 1)).setCell ⟨q2, n, none⟩ (vi 1)).setCell ⟨s2, i, none⟩ (vi 1)).drew) := Lib.hid (by
            rw [← nr_next n (grpT xs) i hlt]
            exact (hinB.out.set hlt1 d5 d6 (hinB.out.ownR.setAt hn1 hn1 hi1 b1'' d2'' 1)).drew)
          clear b1' b2' d2' b1'' d2'' hinA hinB hin
          go_wp2_with fail
          go_region
          go_wp2_with fail
          exact ⟨⟨i + 1, by omega, by go_num, hinC⟩, by simp [intOf]; omega⟩
    · obtain rfl : n = i := by omega
      have hc0 := hin.out.c0
      have hf0 := hin.out.f0
      have hc2 := hin.out.cr
      have hsz := hin.out.size
      have hn1 : n < n + 1 := by omega
      obtain ⟨p1, k1, p2, k2, a1, a2, a3, a4, a5, a6, a7, a8, a9⟩ := hin.out.ownR.at hn1 hn1 hn1
      have hinA : Hid (InTwo w w1.heap.size w2.heap.size (.slice (some ⟨g, 0, none⟩) n cap) (.slice (some ⟨r, 0, none⟩) (n + 1) cap2) (cub n (tabE n (grpT xs))) (cub (n + 1) (nearE n (grpT xs) q)) (wr.setCell ⟨p2, n, none⟩ (vi q))) := Lib.hid (by rw [← nr_last]; exact hin.out.set hlt1 a5 a6 (a9 q))
      clear a9 hin
      have nb1 : p2 ≠ w.heap.size := by omega
      have nb2 : p2 ≠ w2.heap.size := by omega
      have nb3 : w2.heap.size ≠ w.heap.size := by omega
      go_wp2_with fail
      (try simp only [Exit.inBlock, Exit.then])
      refine bodyPost_ret (v := .agg #[.slice (some ⟨r, 0, none⟩) (n + 1) cap2]) (by rw [results_cell1 rfl]; go_simp) rfl ?_
      have h2 : OwnCB ((wr.setCell ⟨p2, n, none⟩ (vi q)).setCell ⟨w.heap.size, 0, none⟩ (.slice (some ⟨r, 0, none⟩) (n + 1) cap2)) (w1.heap.size + 1) w2.heap.size (.slice (some ⟨r, 0, none⟩) (n + 1) cap2) (cub (n + 1) (nearE n (grpT xs) q)) := hinA.out.ownR.same fun x h1 h2 => Below.heap_setCell (wr.setCell ⟨p2, n, none⟩ (vi q)) ⟨w.heap.size, 0, none⟩ _ _ (fun e => by have e' : x = w.heap.size := e; omega)
      exact ⟨_, rfl, h2.mono (by omega) (Nat.le_trans (Nat.le_of_lt hsz) (by simp)), below_set hinA.out.below (Nat.le_refl _)⟩
end Go.Proofs.Ytnhdnogcglmjdaa
