/- Transitive actions: the program's walk. -/
import Derived.Test.YtckcjlophnehmaaTan
namespace Go.Proofs.Ytckcjlophnehmaa
open Go.RowKit
theorem results_cct {fn : Func} {p q u : Tmp} {ty ty' : TypeId} (h : fn.results = #[.cell p ty, .cell q ty', .tmp u]) (tmps : Array Value) (P : Program) (w : World) :
    (results fn tmps).run P w =
      ((asAddr (tmps.getD p undef)).run P w).andThen fun a w₁ => ((loadVar ty a).run P w₁).andThen fun v w₂ => ((asAddr (tmps.getD q undef)).run P w₂).andThen fun a' w₃ => ((loadVar ty' a').run P w₃).andThen fun v' w₄ => .ok (.tuple #[v, v', tmps.getD u undef]) w₄ := by
  simp only [results, h]
  simp [Sem.run_bind, Result.andThen]
/-- post of a call that makes a ring and an action: the action's blocks below a split, the ring's above it -/
def RetRA (r : (List (List (List Int)) × List (List (List Int))) × Int) (w : World) (e : Ending) (w' : World) : Prop :=
  ∃ s t m, e = .returned (.tuple #[.agg #[s], .agg #[t], .int .i64 r.2]) ∧ w.heap.size ≤ m ∧ m ≤ w'.heap.size ∧ OwnCB w' w.heap.size m t r.1.2 ∧ OwnCB w' m w'.heap.size s r.1.1 ∧ Below w.heap.size w w'
theorem retRA_nil {r : (List (List (List Int)) × List (List (List Int))) × Int} {c : Int} {w w' : World} (hr : r = (([], []), c)) (hb : Below w.heap.size w w') : RetRA r w (.returned (.tuple #[.agg #[.slice none 0 0], .agg #[.slice none 0 0], .int .i64 c])) w' := by
  subst hr
  exact ⟨_, _, w.heap.size, rfl, Nat.le_refl _, hb.size, OwnCB.nil _ _ _, OwnCB.nil _ _ _, hb⟩
/-- the lists points and firsts -/
structure TaIn (w1 : World) (p B n c : Nat) (fv : Value) (P F : List Int) (wr : World) : Prop where
  pt : OwnI wr w1.heap.size (.slice (some ⟨p, 0, none⟩) n c) P
  fs : OwnI wr B fv F
  pB : p < B
  size : B ≤ wr.heap.size
  below : Below w1.heap.size w1 wr
theorem TaIn.keep {w1 : World} {p B n c : Nat} {fv : Value} {P F : List Int} {wr w' : World} (h : TaIn w1 p B n c fv P F wr) (hb : Below wr.heap.size wr w') : TaIn w1 p B n c fv P F w' :=
  ⟨Own.keep h.pt hb, Own.keep h.fs hb, h.pB, Nat.le_trans h.size hb.size, h.below.trans (hb.mono h.below.size)⟩
theorem TaIn.store {w1 : World} {p B n c : Nat} {fv : Value} {P F : List Int} {wr : World} (h : TaIn w1 p B n c fv P F wr) (i : Nat) (y : Int) : TaIn w1 p B n c fv (P.set i y) F (wr.setCell ⟨p, i, none⟩ (vi y)) := by
  refine ⟨?_, Own.keepOther h.fs (fun e => by have := (Own.lt h.fs e).1; have := h.pB; simp at *; omega) _, h.pB, by rw [World.size_setCell]; exact h.size, below_set h.below (Own.lt h.pt rfl).1⟩
  have h1 := Own.store h.pt i (vi y)
  rw [← List.map_set] at h1
  exact h1
theorem TaIn.push {w1 : World} {p B n c : Nat} {fv fv' : Value} {P F F' : List Int} {wr w' : World} (h : TaIn w1 p B n c fv P F wr) (ho : OwnI w' B fv' F') (hb : Below B wr w') (hs : wr.heap.size ≤ w'.heap.size) : TaIn w1 p B n c fv' P F' w' := by
  have hp := (Own.lt h.pt rfl).1
  exact ⟨Own.of_block h.pt fun g e => by cases e; exact hb.block p h.pB, ho, h.pB, Nat.le_trans h.size hs, h.below.trans (hb.mono (Nat.le_trans hp (Nat.le_of_lt h.pB)))⟩
/-- points, the first l of the subgroup set -/
def ptk (g : Nat → Nat → Nat) (H : List Nat) (X l z : Nat) : Int := if (H.take l).any (fun y => g X y == z) = true then (cnt g H X : Int) else pts g H X z
theorem ptk_zero (n : Nat) (g : Nat → Nat → Nat) (H : List Nat) (X : Nat) : vec n (ptk g H X 0) = vec n (pts g H X) := vec_congr fun z _ => by simp [ptk]
theorem ptk_next {n : Nat} {g : Nat → Nat → Nat} {H : List Nat} {X l y : Nat} (hy : H[l]? = some y) : (vec n (ptk g H X l)).set (g X y) (cnt g H X : Int) = vec n (ptk g H X (l + 1)) := by
  rw [vec_set]
  refine vec_congr fun z _ => ?_
  have hl := (List.getElem?_eq_some_iff.1 hy).1
  have e : H.take (l + 1) = H.take l ++ [y] := by rw [List.take_add_one, hy]; rfl
  unfold ptk
  rw [e, List.any_append]
  by_cases h : z = g X y
  · subst h; simp
  · rw [if_neg h]
    have : ([y].any fun y => g X y == z) = false := by simp; exact fun h2 => h h2.symm
    rw [this, Bool.or_false]
theorem ptk_end {n : Nat} {g : Nat → Nat → Nat} {H : List Nat} (s : Sg n g H) {X : Nat} (hX : X < n) (hx : lst g H X = X) : vec n (ptk g H X H.length) = vec n (pts g H (X + 1)) := vec_congr fun z hz => by
  rw [s.pts_first hX hz hx]
  unfold ptk
  rw [List.take_length]
  by_cases h : ∃ y ∈ H, g X y = z
  · rw [if_pos h, if_pos]
    obtain ⟨y, hy, e⟩ := h
    rw [List.any_eq_true]
    exact ⟨y, hy, by simp [e]⟩
  · rw [if_neg h, if_neg]
    rw [List.any_eq_true]
    rintro ⟨y, hy, e⟩
    exact h ⟨y, hy, by simpa using e⟩
theorem pts_skipL {n : Nat} {g : Nat → Nat → Nat} {H : List Nat} (s : Sg n g H) {X : Nat} (hx : lst g H X ≠ X) : vec n (pts g H (X + 1)) = vec n (pts g H X) := vec_congr fun _ hz => s.pts_skip hz hx
theorem pts_zero (n : Nat) (g : Nat → Nat → Nat) (H : List Nat) : vec n (pts g H 0) = List.replicate n (-1) := by
  rw [vec_congr (g := fun _ => (-1 : Int)) (fun z _ => by unfold pts; rw [if_neg (by omega)])]
  simp [vec, List.map_const']
end Go.Proofs.Ytckcjlophnehmaa
