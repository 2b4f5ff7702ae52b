/- Slices of integers in memory as lists, and the walks of the functions that only read them. -/
import Derived.Test.YtcgmbpkichfalaaDoorFld
namespace Go.Proofs.YtcgmbpkichfalaaDoor
open Go.RowKit

/-- the slice value v reads as the integers xs -/
def Ints (w : World) (v : Value) (xs : List Int) : Prop :=
  ∃ a cap, v = .slice a xs.length cap ∧ xs.length ≤ 17592186043904 ∧
    ∀ i x, xs[i]? = some x → ∃ b off, a = some ⟨b, off, none⟩ ∧ w.cell? ⟨b, off + i, none⟩ = some (.int .i64 x)

theorem Ints.lt {w : World} {b off : Nat} {v : Value} (h : w.cell? ⟨b, off, none⟩ = some v) : b < w.heap.size :=
  World.block_lt_of_cell? w _ h
/-- a reading stays while its block stays -/
theorem Ints.keep {w w' : World} {v : Value} {xs : List Int} (h : Ints w v xs) (hb : Below w.heap.size w w') : Ints w' v xs := by
  obtain ⟨a, cap, rfl, hl, hc⟩ := h
  refine ⟨a, cap, rfl, hl, fun i x hx => ?_⟩
  obtain ⟨b, off, rfl, hcell⟩ := hc i x hx
  exact ⟨b, off, rfl, by rw [hb.cell (Ints.lt hcell)]; exact hcell⟩

/-- the first place at which a test says yes -/
def firstAt {α : Type} (p : α → Bool) : List α → Option Nat
  | [] => none
  | x :: xs => if p x then some 0 else (firstAt p xs).map (· + 1)
def idxOf (o : Option Nat) : Int := match o with | some i => (i : Int) | none => -1
theorem firstAt_none {α : Type} {p : α → Bool} : ∀ {xs : List α}, (∀ (i : Nat) x, xs[i]? = some x → p x = false) → firstAt p xs = none
  | [], _ => rfl
  | x :: xs, h => by
    have h0 := h 0 x rfl
    have ih := firstAt_none (p := p) (xs := xs) (fun i y hy => h (i + 1) y (by simpa using hy))
    simp [firstAt, h0, ih]
theorem firstAt_some {α : Type} {p : α → Bool} : ∀ {xs : List α} {k : Nat} {y : α}, (∀ (i : Nat) x, i < k → xs[i]? = some x → p x = false) → xs[k]? = some y → p y = true → firstAt p xs = some k
  | x :: xs, 0, y, _, hk, hy => by
    simp at hk; subst hk; simp [firstAt, hy]
  | x :: xs, k + 1, y, h, hk, hy => by
    have h0 := h 0 x (by omega) rfl
    have ih := firstAt_some (p := p) (xs := xs) (k := k) (y := y) (fun i z hi hz => h (i + 1) z (by omega) (by simpa using hz)) (by simpa using hk) hy
    simp [firstAt, h0, ih]
theorem firstAt_cases {α : Type} (p : α → Bool) (xs : List α) : (∃ k y, xs[k]? = some y ∧ p y = true ∧ (∀ (i : Nat) x, i < k → xs[i]? = some x → p x = false) ∧ firstAt p xs = some k) ∨ ((∀ (i : Nat) x, xs[i]? = some x → p x = false) ∧ firstAt p xs = none) := by
  induction xs with
  | nil => exact .inr ⟨fun i x h => by simp at h, rfl⟩
  | cons x xs ih =>
    cases hp : p x
    · rcases ih with ⟨k, y, h1, h2, h3, h4⟩ | ⟨h1, h2⟩
      · refine .inl ⟨k + 1, y, by simpa using h1, h2, fun i z hi hz => ?_, by simp [firstAt, hp, h4]⟩
        cases i with
        | zero => simp at hz; subst hz; exact hp
        | succ i => exact h3 i z (by omega) (by simpa using hz)
      · refine .inr ⟨fun i z hz => ?_, by simp [firstAt, hp, h2]⟩
        cases i with
        | zero => simp at hz; subst hz; exact hp
        | succ i => exact h1 i z (by simpa using hz)
    · exact .inl ⟨0, x, rfl, hp, fun i _ hi => absurd hi (Nat.not_lt_zero _), by simp [firstAt, hp]⟩
theorem idx_any {α : Type} (p : α → Bool) : ∀ xs : List α, decide (0 ≤ idxOf (firstAt p xs)) = xs.any p
  | [] => rfl
  | x :: xs => by
    have ih := idx_any p xs
    cases hp : p x
    · cases hf : firstAt p xs with
      | none => simp [firstAt, hp, hf, idxOf, ← ih]
      | some k => simp [firstAt, hp, hf, idxOf, ← ih]; omega
    · simp [firstAt, hp, idxOf]
theorem idx_bd {α : Type} (p : α → Bool) (xs : List α) : -1 ≤ idxOf (firstAt p xs) := by
  unfold idxOf; split <;> omega


/-- a list of two numbers that a call has just laid -/
theorem ints_two (w : World) (a b : Int) (t : TypeId) : Ints (w.alloc (.cells #[.int .i64 a, .int .i64 b] t)) (.slice (some ⟨w.heap.size, 0, none⟩) 2 2) [a, b] := by
  refine ⟨some ⟨w.heap.size, 0, none⟩, 2, rfl, by simp, fun i x hx => ⟨_, _, rfl, ?_⟩⟩
  match i, hx with
  | 0, hx => simp at hx; subst hx; simp
  | 1, hx => simp at hx; subst hx; simp
theorem below_alloc (w : World) (o : Obj) : Below w.heap.size w (w.alloc o) := (Below.refl _ _).alloc (Nat.le_refl _) o
theorem below_drew {w w' : World} (h : Below w.drew.heap.size w.drew w') : Below w.heap.size w w' := ⟨h.os, h.tape, h.output, h.size, h.block⟩
theorem below_drewN (n : Nat) {w w' : World} (h : Below (w.drewN n).heap.size (w.drewN n) w') : Below w.heap.size w w' := ⟨h.os, h.tape, h.output, h.size, h.block⟩
theorem below_toDrewN (n : Nat) (B : Nat) (w : World) : Below B w (w.drewN n) := ⟨rfl, rfl, rfl, Nat.le_refl _, fun _ _ => rfl⟩
theorem below_after {w w' : World} {o : Obj} (h : Below (w.alloc o).heap.size (w.alloc o) w') : Below w.heap.size w w' :=
  (below_alloc w o).trans (h.mono (by simp))
theorem all_two (a b : Int) : [a, b].all isNum = (isNum a && isNum b) := by simp



end Go.Proofs.YtcgmbpkichfalaaDoor
