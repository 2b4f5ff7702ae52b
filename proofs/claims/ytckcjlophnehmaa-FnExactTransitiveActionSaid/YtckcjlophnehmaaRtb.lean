/- Rings told by a table of products: fromTable with the closures of the program. -/
import Derived.Test.YtckcjlophnehmaaRsp
namespace Go.Proofs.Ytckcjlophnehmaa
open Go.RowKit

/-- entries told before the pair i, j -/
def tabG (n : Nat) (T : Nat → Nat → Nat) (i j : Nat) (a b k : Nat) : Int := if (a < i ∧ b < n) ∨ (a = i ∧ b < j) then (if k = T a b then 1 else 0) else 0
/-- .. all: n rows of n labels, in a cube that may be greater -/
def tabE (n : Nat) (T : Nat → Nat → Nat) (a b k : Nat) : Int := if a < n ∧ b < n ∧ k = T a b then 1 else 0
theorem tb_start (N n : Nat) (T : Nat → Nat → Nat) : cub N (tabG n T 0 0) = cub N fun _ _ _ => 0 :=
  cub_congr fun a b k _ _ _ => by unfold tabG; rw [if_neg (by omega)]
theorem tb_next (N n : Nat) (T : Nat → Nat → Nat) (i j : Nat) (hj : j < n) : cub N (upd3 (tabG n T i j) i j (T i j) 1) = cub N (tabG n T i (j + 1)) := by
  refine cub_congr fun a b k _ _ _ => ?_
  unfold upd3 tabG
  by_cases e : a = i ∧ b = j
  · obtain ⟨rfl, rfl⟩ := e
    by_cases e2 : k = T a b
    · rw [if_pos ⟨rfl, rfl, e2⟩, if_pos (by omega), if_pos e2]
    · rw [if_neg (fun h => e2 h.2.2), if_neg (by omega), if_pos (by omega), if_neg e2]
  · rw [if_neg (fun h => e ⟨h.1, h.2.1⟩)]
    by_cases e2 : (a < i ∧ b < n) ∨ (a = i ∧ b < j)
    · have e3 : (a < i ∧ b < n) ∨ (a = i ∧ b < j + 1) := by omega
      rw [if_pos e2, if_pos e3]
    · have e3 : ¬ ((a < i ∧ b < n) ∨ (a = i ∧ b < j + 1)) := by omega
      rw [if_neg e2, if_neg e3]
theorem tb_row (N n : Nat) (T : Nat → Nat → Nat) (i : Nat) : cub N (tabG n T i n) = cub N (tabG n T (i + 1) 0) := by
  refine cub_congr fun a b k _ _ _ => ?_
  unfold tabG
  by_cases e2 : (a < i ∧ b < n) ∨ (a = i ∧ b < n)
  · have e3 : (a < i + 1 ∧ b < n) ∨ (a = i + 1 ∧ b < 0) := by omega
    rw [if_pos e2, if_pos e3]
  · have e3 : ¬ ((a < i + 1 ∧ b < n) ∨ (a = i + 1 ∧ b < 0)) := by omega
    rw [if_neg e2, if_neg e3]
theorem tb_end (N n : Nat) (T : Nat → Nat → Nat) : cub N (tabG n T n 0) = cub N (tabE n T) := by
  refine cub_congr fun a b k _ _ _ => ?_
  unfold tabG tabE
  by_cases e2 : a < n ∧ b < n
  · rw [if_pos (by omega)]
    by_cases e3 : k = T a b
    · rw [if_pos e3, if_pos ⟨e2.1, e2.2, e3⟩]
    · rw [if_neg e3, if_neg (fun h => e3 h.2.2)]
  · rw [if_neg (by omega), if_neg (fun h => e2 ⟨h.1, h.2.1⟩)]
theorem InBox.call {w wr w5 : World} {b0 b1 lo : Nat} {v : Value} {c : List (List (List Int))} (h : InBox w b0 b1 lo v c wr) (hb : Below wr.heap.size wr w5) : InBox w b0 b1 lo v c w5 :=
  ⟨bcell hb h.c0, bfrozen hb h.c0 h.f0, bcell hb h.c1, Nat.lt_of_lt_of_le h.size hb.size, h.own.keep hb (Nat.le_of_lt h.size), h.below.trans (hb.mono h.below.size)⟩
theorem InOne.call {w wr w5 : World} {hi : Nat} {v : Value} {c : List (List (List Int))} (h : InOne w hi v c wr) (hb : Below wr.heap.size wr w5) : InOne w hi v c w5 :=
  ⟨Nat.le_trans h.size hb.size, h.own.keep hb h.size, h.below.trans (hb.mono h.below.size)⟩
/-- a store at an entry whose blocks were read before -/
theorem OwnCB.setAt {w : World} {lo hi g N cap n c1 c2 g1 g2 : Nat} {f : Nat → Nat → Nat → Int} {m1 m2 : Nat} (h : OwnCB w lo hi (.slice (some ⟨g, 0, none⟩) N cap) (cub n f)) {i j k : Nat} (hi' : i < n) (hj : j < n) (hk : k < n)
    (h1 : w.cell? ⟨g, i, none⟩ = some (.slice (some ⟨g1, 0, none⟩) m1 c1)) (h2 : w.cell? ⟨g1, j, none⟩ = some (.slice (some ⟨g2, 0, none⟩) m2 c2)) (x : Int) :
    OwnCB (w.setCell ⟨g2, k, none⟩ (vi x)) lo hi (.slice (some ⟨g, 0, none⟩) N cap) (cub n (upd3 f i j k x)) := by
  obtain ⟨g1', c1', g2', c2', e1, e2, e3, e4, e5, e6, e7, e8, e9⟩ := h.at hi' hj hk
  rw [h1] at e1
  cases e1
  rw [h2] at e2
  cases e2
  exact e9 x
theorem tt_rfl (a m : Nat) : (a : Int).tmod (m : Int) = ((a % m : Nat) : Int) := rfl
theorem td_rfl (a m : Nat) : (a : Int).tdiv (m : Int) = ((a / m : Nat) : Int) := rfl

/-- products of a dihedral group -/
def dihT (m x y : Nat) : Nat := (if y < m then (if x < m then 0 else m) else (if x < m then m else 0)) + (if x < m then (x + y) % m else (x + m - y % m) % m)
theorem dihT_lt {m x y : Nat} (hm : 0 < m) : dihT m x y < 2 * m := by
  unfold dihT
  have h1 := Nat.mod_lt (x + y) hm
  have h2 := Nat.mod_lt (x + m - y % m) hm
  (repeat' split) <;> omega
def dihR (m : Nat) : List (List (List Int)) := cub (2 * m) (tabE (2 * m) (dihT m))


theorem dih_a {m x y : Nat} : (x % m + y % m) % m = (x + y) % m := (Nat.add_mod x y m).symm
theorem dih_b {m x y : Nat} (hm : 0 < m) (h1 : m ≤ x) (h2 : x < 2 * m) : (x % m + m - y % m) % m = (x + m - y % m) % m := by
  have e : x % m = x - m := by rw [Nat.mod_eq_sub_mod h1]; exact Nat.mod_eq_of_lt (by omega)
  have hl := Nat.mod_lt y hm
  rw [e, show x + m - y % m = (x - m + m - y % m) + m by omega, Nat.add_mod_right]

end Go.Proofs.Ytckcjlophnehmaa
